import Derived.Test.YtkhchfjhmplaiaaHP3
import Derived.Test.YtkhchfjhmplaiaaHP4
namespace Go
open Go.RowKit
/-- One clock is at most the other. -/
def LeC (a b : List Int) : Prop := ∀ p : Nat, a.getD p 0 ≤ b.getD p 0
theorem LeC.refl (a : List Int) : LeC a a := fun _ => Int.le_refl _
theorem LeC.trans {a b c : List Int} (h : LeC a b) (k : LeC b c) : LeC a c := fun p => Int.le_trans (h p) (k p)
theorem getD_out {a : List Int} {p : Nat} (h : a.length ≤ p) : a.getD p 0 = 0 := by simp [List.getD_eq_getElem?_getD, List.getElem?_eq_none h]
theorem lessL_iff {a b : List Int} : lessL a b = true ↔ LeC a b ∧ ∃ p, a.getD p 0 < b.getD p 0 := by
  unfold lessL geTo ltTo
  simp only [Bool.and_eq_true, List.all_eq_true, List.any_eq_true, List.mem_range, decide_eq_true_eq]
  constructor
  · rintro ⟨h1, p, _, h2⟩
    refine ⟨fun q => ?_, p, h2⟩
    by_cases hq : q < max a.length b.length
    · exact h1 q hq
    · rw [getD_out (show a.length ≤ q by omega), getD_out (show b.length ≤ q by omega)]; omega
  · rintro ⟨h1, p, h2⟩
    refine ⟨fun q _ => h1 q, p, ?_, h2⟩
    by_cases hp : p < max a.length b.length
    · exact hp
    · rw [getD_out (show a.length ≤ p by omega), getD_out (show b.length ≤ p by omega)] at h2; omega
theorem lessL_trans {a b c : List Int} (h : lessL a b = true) (k : lessL b c = true) : lessL a c = true := by
  rw [lessL_iff] at *
  obtain ⟨h1, p, h2⟩ := h
  exact ⟨h1.trans k.1, p, Int.lt_of_lt_of_le h2 (k.1 p)⟩
theorem lessL_asymm {a b : List Int} (h : lessL a b = true) : lessL b a = false := by
  cases k : lessL b a with
  | false => rfl
  | true =>
    rw [lessL_iff] at *
    obtain ⟨_, p, h2⟩ := h
    have := k.1 p
    omega
/-- The events of a place ahead of k. -/
def cntP (h : List Ln) (p : Nat) : Nat → Int
  | 0 => 0
  | k + 1 => cntP h p k + (if (lat h k).q = p then 1 else 0)
theorem cntP_mono (h : List Ln) (p : Nat) {i k : Nat} (hk : i ≤ k) : cntP h p i ≤ cntP h p k := by
  induction k with
  | zero => rw [show i = 0 by omega]; exact Int.le_refl _
  | succ k ih =>
    by_cases e : i = k + 1
    · rw [e]; exact Int.le_refl _
    · have := ih (by omega)
      rw [cntP]; split <;> omega
theorem cntP_nn (h : List Ln) (p k : Nat) : 0 ≤ cntP h p k := cntP_mono h p (Nat.zero_le k)
theorem getD_bump {c : List Int} {p : Nat} (hp : p < c.length) (r : Nat) : (bump c p).getD r 0 = if r = p then c.getD p 0 + 1 else c.getD r 0 := by
  unfold bump
  simp only [List.getD_eq_getElem?_getD, List.getElem?_set]
  by_cases e : p = r
  · subst e; simp [hp]
  · rw [if_neg e, if_neg (fun h => e h.symm)]
theorem zeros8_getD (r : Nat) : zeros8.getD r 0 = 0 := by
  by_cases hr : r < 8
  · rcases (by omega : r = 0 ∨ r = 1 ∨ r = 2 ∨ r = 3 ∨ r = 4 ∨ r = 5 ∨ r = 6 ∨ r = 7) with h | h | h | h | h | h | h | h <;> (subst h; rfl)
  · exact getD_out (by simp [zeros8]; omega)
theorem joinL_at (a b : List Int) (r : Nat) : (joinL a b).getD r 0 = max (a.getD r 0) (b.getD r 0) := by
  by_cases hr : r < max a.length b.length
  · exact joinL_getD a b r hr
  · rw [getD_out (by simp [joinL]; omega), getD_out (show a.length ≤ r by omega), getD_out (show b.length ≤ r by omega)]; omega
/-- What stands ahead of the count of the event itself. -/
def base (h : List Ln) (k : Nat) : List Int := if (lat h k).g = 3 then joinL ((lastIx h (lat h k).q k).elim zeros8 (clk h)) ((sendIx h (lat h k).u k).elim [] (clk h)) else (lastIx h (lat h k).q k).elim zeros8 (clk h)
theorem clk_base (h : List Ln) (k : Nat) : clk h k = bump (base h k) (lat h k).q.toNat := clk_eq h k
theorem last_clk {h : List Ln} (hk : HOk h) {k : Nat} (hl : k < h.length) (p : Int) : Clk k ((lastIx h p k).elim zeros8 (clk h)) := by
  cases hj : lastIx h p k with
  | none => exact zeros8_clk.more (by omega)
  | some j =>
    have := lastIx_lt hj
    exact (clk_ok hk j (by omega)).more (by omega)
theorem base_len {h : List Ln} (hk : HOk h) {k : Nat} (hl : k < h.length) : (base h k).length = 8 := by
  unfold base
  split
  · rename_i hg
    obtain ⟨j, hj⟩ := sendIx_take hk hl hg
    have := sendIx_lt hj
    rw [hj]
    exact (join_clk (last_clk hk hl _) ((clk_ok hk j (by omega)).more (show ((j : Int) + 1) ≤ k by omega)) (by omega)).len
  · exact (last_clk hk hl _).len
theorem clk_at {h : List Ln} (hk : HOk h) {k : Nat} (hl : k < h.length) (r : Nat) : (clk h k).getD r 0 = if (lat h k).q = r then (base h k).getD r 0 + 1 else (base h k).getD r 0 := by
  have he := hk.ev k hl
  have hb := base_len hk hl
  rw [clk_base]
  generalize lat h k = L at *
  rw [getD_bump (by omega)]
  by_cases e : r = L.q.toNat
  · rw [if_pos e, if_pos (by omega), e]
  · rw [if_neg e, if_neg (by omega)]
theorem last_base (h : List Ln) {k : Nat} (_hl : k < h.length) (_hk : HOk h) (r : Nat) : ((lastIx h (lat h k).q k).elim zeros8 (clk h)).getD r 0 ≤ (base h k).getD r 0 := by
  unfold base
  split
  · rw [joinL_at]; omega
  · exact Int.le_refl _
/-- The two laws of counting: a clock's own place counts the place's events; each place, at most so many. -/
theorem clk_cnt {h : List Ln} (hk : HOk h) : ∀ (n k : Nat), k < n → k < h.length → (∀ p, (clk h k).getD p 0 ≤ cntP h p (k + 1)) ∧ ∀ p : Nat, (lat h k).q = p → (clk h k).getD p 0 = cntP h p (k + 1) := by
  intro n
  induction n with
  | zero => intro k h; omega
  | succ n ih =>
    intro k hn hl
    have hlast : ∀ p r, ((lastIx h p k).elim zeros8 (clk h)).getD r 0 ≤ cntP h r k := fun p r => by
      cases hj : lastIx h p k with
      | none => rw [show (none : Option Nat).elim zeros8 (clk h) = zeros8 from rfl, zeros8_getD]; exact cntP_nn _ _ _
      | some j =>
        have := lastIx_lt hj
        exact Int.le_trans ((ih j (by omega) (by omega)).1 r) (cntP_mono h r (by omega))
    have hbase : ∀ r, (base h k).getD r 0 ≤ cntP h r k := fun r => by
      unfold base
      split
      · rename_i hg
        obtain ⟨j, hj⟩ := sendIx_take hk hl hg
        have := sendIx_lt hj
        rw [joinL_at, hj]
        have h1 := hlast (lat h k).q r
        have h2 := Int.le_trans ((ih j (by omega) (by omega)).1 r) (cntP_mono h r (show j + 1 ≤ k by omega))
        exact Int.max_le.2 ⟨h1, h2⟩
      · exact hlast _ r
    have hown : ∀ p : Nat, (lat h k).q = p → cntP h p k ≤ (base h k).getD p 0 := fun p hp => by
      refine Int.le_trans ?_ (last_base h hl hk p)
      rw [hp]
      cases hj : lastIx h (p : Int) k with
      | none =>
        rw [show (none : Option Nat).elim zeros8 (clk h) = zeros8 from rfl, zeros8_getD]
        have hn := lastIx_none hj
        have : ∀ m, m ≤ k → cntP h p m ≤ 0 := fun m => by
          induction m with
          | zero => intro _; exact Int.le_refl _
          | succ m ihm => intro hm; rw [cntP, if_neg (hn m (by omega))]; have := ihm (by omega); omega
        exact this k (Nat.le_refl _)
      | some j =>
        obtain ⟨h1, h2, h3⟩ := lastIx_lt hj
        have h4 := (ih j (by omega) (by omega)).2 p h2
        show cntP h p k ≤ (clk h j).getD p 0
        rw [h4]
        have : ∀ m, j + 1 ≤ m → m ≤ k → cntP h p m ≤ cntP h p (j + 1) := fun m => by
          induction m with
          | zero => intro hh; omega
          | succ m ihm =>
            intro h5 h6
            by_cases e : m = j
            · rw [e]; exact Int.le_refl _
            · rw [cntP, if_neg (h3 m (by omega) (by omega))]; have := ihm (by omega) (by omega); omega
        exact this k (by omega) (Nat.le_refl _)
    constructor
    · intro p
      rw [clk_at hk hl, cntP]
      have := hbase p
      split <;> omega
    · intro p hp
      rw [clk_at hk hl, cntP, if_pos hp, if_pos hp]
      have := hbase p
      have := hown p hp
      omega
/-- What is ahead came earlier. -/
theorem less_lt {h : List Ln} (hk : HOk h) {i k : Nat} (hi : i < h.length) (hl : k < h.length) (hL : LeC (clk h i) (clk h k)) : i ≤ k := by
  have he := hk.ev i hi
  obtain ⟨p, hp⟩ : ∃ p : Nat, (lat h i).q = p := ⟨(lat h i).q.toNat, by omega⟩
  have h1 := (clk_cnt hk (i + 1) i (by omega) hi).2 p hp
  have h2 := (clk_cnt hk (k + 1) k (by omega) hl).1 p
  have h3 := hL p
  by_cases e : i ≤ k
  · exact e
  · have h4 := cntP_mono h p (show k + 1 ≤ i by omega)
    rw [cntP, if_pos hp] at h1
    omega
theorem lessL_lt {h : List Ln} (hk : HOk h) {i k : Nat} (hi : i < h.length) (hl : k < h.length) (hL : lessL (clk h i) (clk h k) = true) : i < k := by
  have h1 := less_lt hk hi hl (lessL_iff.1 hL).1
  by_cases e : i = k
  · subst e
    have := lessL_asymm hL
    rw [hL] at this; cases this
  · omega
theorem lastIx_ge {h : List Ln} {p : Int} {k i : Nat} (hi : i < k) (hq : (lat h i).q = p) : ∃ j, lastIx h p k = some j ∧ i ≤ j := by
  cases hj : lastIx h p k with
  | none => exact absurd hq (lastIx_none hj i hi)
  | some j =>
    refine ⟨j, rfl, ?_⟩
    by_cases e : i ≤ j
    · exact e
    · exact absurd hq ((lastIx_lt hj).2.2 i (by omega) hi)
/-- On one place the earlier is at most the later. -/
theorem same_le {h : List Ln} (hk : HOk h) : ∀ (n k : Nat), k < n → k < h.length → ∀ i, i ≤ k → (lat h i).q = (lat h k).q → LeC (clk h i) (clk h k) := by
  intro n
  induction n with
  | zero => intro k h; omega
  | succ n ih =>
    intro k hn hl i hi hq
    by_cases e : i = k
    · rw [e]; exact LeC.refl _
    · obtain ⟨j, hj, hij⟩ := lastIx_ge (h := h) (show i < k by omega) hq
      have hjl := lastIx_lt hj
      refine (ih j (by omega) (by omega) i hij (by rw [hq, hjl.2.1])).trans fun r => ?_
      have h1 := last_base h hl hk r
      rw [hj] at h1
      have h2 : (clk h j).getD r 0 ≤ (base h k).getD r 0 := h1
      rw [clk_at hk hl r]
      split <;> omega
theorem le_less {h : List Ln} (hk : HOk h) {i k : Nat} (hik : i < k) (hl : k < h.length) (hL : LeC (clk h i) (clk h k)) : lessL (clk h i) (clk h k) = true := by
  refine lessL_iff.2 ⟨hL, ?_⟩
  have he := hk.ev k hl
  obtain ⟨p, hp⟩ : ∃ p : Nat, (lat h k).q = p := ⟨(lat h k).q.toNat, by omega⟩
  refine ⟨p, ?_⟩
  have h1 := (clk_cnt hk (i + 1) i (by omega) (by omega)).1 p
  have h2 := (clk_cnt hk (k + 1) k (by omega) hl).2 p hp
  have h3 := cntP_mono h p (show i + 1 ≤ k by omega)
  rw [cntP, if_pos hp] at h2
  omega
theorem same_less {h : List Ln} (hk : HOk h) {i k : Nat} (hik : i < k) (hl : k < h.length) (hq : (lat h i).q = (lat h k).q) : lessL (clk h i) (clk h k) = true :=
  le_less hk hik hl (same_le hk (k + 1) k (by omega) hl i (by omega) hq)
/-- The law of order. -/
theorem clockOrder_law {h : List Ln} (hk : HOk h) {i j k : Nat} (hi : i < h.length) (hj : j < h.length) (hl : k < h.length) :
    (lessL (clk h i) (clk h j) = true → lessL (clk h j) (clk h k) = true → lessL (clk h i) (clk h k) = true) ∧ (lessL (clk h i) (clk h j) = true → lessL (clk h j) (clk h i) = false) ∧ (lessL (clk h i) (clk h j) = true → i < j) ∧
    ((lat h i).q = (lat h j).q → (lessL (clk h i) (clk h j) = decide (i < j))) := by
  refine ⟨lessL_trans, lessL_asymm, lessL_lt hk hi hj, fun hq => ?_⟩
  by_cases e : i < j
  · rw [same_less hk e hj hq]; simp [e]
  · simp only [e, decide_false]
    cases hb : lessL (clk h i) (clk h j) with
    | false => rfl
    | true => exact absurd (lessL_lt hk hi hj hb) e
end Go
