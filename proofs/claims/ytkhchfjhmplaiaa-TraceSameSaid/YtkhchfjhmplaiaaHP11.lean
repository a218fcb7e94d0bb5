import Derived.Test.YtkhchfjhmplaiaaHP9
namespace Go
open Go.RowKit
/-- The last one below m of which c is so. -/
def lastB (c : Nat → Bool) : Nat → Option Nat
  | 0 => none
  | m + 1 => if c m = true then some m else lastB c m
theorem lastIx_B (h : List Ln) (p : Int) (m : Nat) : lastIx h p m = lastB (fun j => decide ((lat h j).q = p)) m := by
  induction m with
  | zero => rfl
  | succ m ih => rw [lastIx, lastB, ih]; simp only [decide_eq_true_eq]
theorem sendIx_B (h : List Ln) (u : Int) (m : Nat) : sendIx h u m = lastB (fun j => decide ((lat h j).g = 2 ∧ (lat h j).u = u)) m := by
  induction m with
  | zero => rfl
  | succ m ih => rw [sendIx, lastB, ih]; simp only [decide_eq_true_eq]
theorem lastB_lt {c : Nat → Bool} {m j : Nat} (h : lastB c m = some j) : j < m ∧ c j = true := by
  induction m with
  | zero => cases h
  | succ m ih =>
    rw [lastB] at h
    split at h
    · cases h; exact ⟨by omega, by assumption⟩
    · have := ih h; exact ⟨by omega, this.2⟩
theorem lastB_none {c : Nat → Bool} {m : Nat} (h : lastB c m = none) : ∀ j, j < m → c j = false := by
  induction m with
  | zero => intro j hj; omega
  | succ m ih =>
    rw [lastB] at h
    split at h
    · cases h
    · rename_i hc
      intro j hj
      by_cases e : j = m
      · subst e; simpa using hc
      · exact ih h j (by omega)
theorem lastB_and {P c : Nat → Bool} {m : Nat} (hP : ∀ j, lastB c m = some j → P j = true) : lastB (fun j => P j && c j) m = lastB c m := by
  induction m with
  | zero => rfl
  | succ m ih =>
    rw [lastB, lastB]
    by_cases e : c m = true
    · have := hP m (by rw [lastB, if_pos e])
      rw [if_pos e, if_pos (by rw [this, e]; rfl)]
    · rw [if_neg e, if_neg (by simp [e])]
      exact ih fun j hj => hP j (by rw [lastB, if_neg e]; exact hj)
/-- How many below k are chosen. -/
def rk (P : Nat → Bool) (k : Nat) : Nat := ((List.range k).filter P).length
theorem rk_succ (P : Nat → Bool) (k : Nat) : rk P (k + 1) = rk P k + (if P k = true then 1 else 0) := by
  unfold rk
  rw [List.range_succ, List.filter_append, List.length_append]
  by_cases e : P k = true
  · simp [e]
  · simp [e]
theorem rk_mono (P : Nat → Bool) {i k : Nat} (h : i ≤ k) : rk P i ≤ rk P k := by
  induction k with
  | zero => rw [show i = 0 by omega]; exact Nat.le_refl _
  | succ k ih =>
    by_cases e : i = k + 1
    · rw [e]; exact Nat.le_refl _
    · have := ih (by omega); rw [rk_succ]; omega
theorem rk_lt {P : Nat → Bool} {i k : Nat} (h : i < k) (hi : P i = true) : rk P i < rk P k := by
  have h1 := rk_mono P (show i + 1 ≤ k from h)
  rw [rk_succ, if_pos hi] at h1
  omega
theorem rk_inv {P : Nat → Bool} {n x : Nat} (h : x < rk P n) : ∃ k, k < n ∧ P k = true ∧ rk P k = x := by
  induction n with
  | zero => simp [rk] at h
  | succ n ih =>
    rw [rk_succ] at h
    by_cases e : x < rk P n
    · obtain ⟨k, h1, h2⟩ := ih e
      exact ⟨k, by omega, h2⟩
    · by_cases hp : P n = true
      · rw [if_pos hp] at h
        exact ⟨n, by omega, hp, by omega⟩
      · rw [if_neg hp] at h; omega
/-- The chosen events. -/
def subL (h : List Ln) (P : Nat → Bool) (n : Nat) : List Ln := ((List.range n).filter P).map (lat h)
theorem subL_len (h : List Ln) (P : Nat → Bool) (n : Nat) : (subL h P n).length = rk P n := by simp [subL, rk]
theorem subL_at (h : List Ln) {P : Nat → Bool} {n k : Nat} (hk : k < n) (hp : P k = true) : lat (subL h P n) (rk P k) = lat h k := by
  induction n with
  | zero => omega
  | succ n ih =>
    have hs : subL h P (n + 1) = subL h P n ++ (if P n = true then [lat h n] else []) := by
      unfold subL
      rw [List.range_succ, List.filter_append, List.map_append]
      by_cases e : P n = true
      · simp [e]
      · simp [e]
    rw [hs]
    by_cases e : k = n
    · subst e
      rw [if_pos hp]
      have hl := subL_len h P k
      show List.getD _ _ _ = _
      rw [List.getD_eq_getElem?_getD, List.getElem?_append_right (by omega), show rk P k - (subL h P k).length = 0 by omega]
      rfl
    · have h1 := ih (by omega)
      have h2 := rk_lt (show k < n by omega) hp
      show List.getD _ _ _ = _
      rw [List.getD_eq_getElem?_getD, List.getElem?_append_left (by rw [subL_len]; omega), ← List.getD_eq_getElem?_getD]
      exact h1
theorem lastB_rk {P c c' : Nat → Bool} {m : Nat} (hc : ∀ j, j < m → P j = true → c' (rk P j) = c j) : lastB c' (rk P m) = (lastB (fun j => P j && c j) m).map (rk P) := by
  induction m with
  | zero => rfl
  | succ m ih =>
    have h1 := ih fun j hj => hc j (by omega)
    rw [rk_succ, lastB]
    by_cases e : P m = true
    · rw [if_pos e, lastB, hc m (by omega) e, h1]
      by_cases e2 : c m = true
      · rw [if_pos e2, if_pos (by rw [e, e2]; rfl)]; rfl
      · rw [if_neg e2, if_neg (by simp [e2])]
    · rw [if_neg e, if_neg (by simp [e]), Nat.add_zero, h1]
/-- A choice that is closed downwards. -/
structure Closed (h : List Ln) (P : Nat → Bool) : Prop where
  edge : ∀ j k, j < k → k < h.length → P k = true → edgeB h j k = true → P j = true
section
variable {h : List Ln} {P : Nat → Bool}
theorem sub_last (hc : Closed h P) {n k : Nat} (hn : n ≤ h.length) (hk : k < n) (hp : P k = true) : lastIx (subL h P n) (lat h k).q (rk P k) = (lastIx h (lat h k).q k).map (rk P) := by
  rw [lastIx_B, lastIx_B, lastB_rk (c := fun j => decide ((lat h j).q = (lat h k).q)) (fun j hj hpj => by rw [subL_at h (by omega) hpj]), lastB_and]
  intro j hj
  obtain ⟨h1, h2⟩ := lastB_lt hj
  exact hc.edge j k h1 (by omega) hp (by unfold edgeB; rw [h2]; rfl)
theorem sub_send (hc : Closed h P) {n k : Nat} (hn : n ≤ h.length) (hk : k < n) (hp : P k = true) (hg : (lat h k).g = 3) : sendIx (subL h P n) (lat h k).u (rk P k) = (sendIx h (lat h k).u k).map (rk P) := by
  rw [sendIx_B, sendIx_B, lastB_rk (c := fun j => decide ((lat h j).g = 2 ∧ (lat h j).u = (lat h k).u)) (fun j hj hpj => by rw [subL_at h (by omega) hpj]), lastB_and]
  intro j hj
  obtain ⟨h1, h2⟩ := lastB_lt hj
  have h3 := of_decide_eq_true h2
  exact hc.edge j k h1 (by omega) hp (by unfold edgeB; rw [h3.1, h3.2, hg]; simp)
/-- The clocks stay. -/
theorem sub_clk (hk : HOk h) (hc : Closed h P) {n : Nat} (hn : n ≤ h.length) : ∀ (m k : Nat), k < m → k < n → P k = true → clk (subL h P n) (rk P k) = clk h k := by
  intro m
  induction m with
  | zero => intro k h; omega
  | succ m ih =>
    intro k hm hkn hp
    rw [clk_eq (subL h P n), clk_eq h k, subL_at h hkn hp, sub_last hc hn hkn hp]
    have h1 : ((lastIx h (lat h k).q k).map (rk P)).elim zeros8 (clk (subL h P n)) = (lastIx h (lat h k).q k).elim zeros8 (clk h) := by
      cases hx : lastIx h (lat h k).q k with
      | none => rfl
      | some j =>
        have hj := lastIx_lt hx
        have hpj := hc.edge j k hj.1 (by omega) hp (by unfold edgeB; rw [hj.2.1]; simp)
        exact ih j (by omega) (by omega) hpj
    rw [h1]
    by_cases hg : (lat h k).g = 3
    · rw [if_pos hg, if_pos hg, sub_send hc hn hkn hp hg]
      obtain ⟨j, hj⟩ := sendIx_take hk (show k < h.length by omega) hg
      have hjl := sendIx_lt hj
      have hpj := hc.edge j k hjl.1 (by omega) hp (by unfold edgeB; rw [hjl.2.1, hjl.2.2, hg]; simp)
      have h2 := ih j (by omega) (by omega) hpj
      rw [hj]
      show bump (joinL _ (clk (subL h P n) (rk P j))) _ = bump (joinL _ (clk h j)) _
      rw [h2]
    · rw [if_neg hg, if_neg hg]
theorem sub_ok (hk : HOk h) (hc : Closed h P) {n : Nat} (hn : n ≤ h.length) : HOk (subL h P n) := by
  have hlen := subL_len h P n
  have hrn : rk P n ≤ n := by unfold rk; exact Nat.le_trans (List.length_filter_le _ _) (by simp)
  have hl := hk.len
  have uniq : ∀ g : Int, (∀ x y, x < y → y < h.length → (lat h x).g = g → (lat h y).g = g → (lat h x).u ≠ (lat h y).u) → ∀ x y, x < y → y < (subL h P n).length → (lat (subL h P n) x).g = g → (lat (subL h P n) y).g = g → (lat (subL h P n) x).u ≠ (lat (subL h P n) y).u := fun g hu x y hxy hy h1 h2 => by
    rw [hlen] at hy
    obtain ⟨i, hi, hpi, rfl⟩ := rk_inv (show x < rk P n by omega)
    obtain ⟨j, hj, hpj, rfl⟩ := rk_inv hy
    rw [subL_at h hi hpi] at h1 ⊢
    rw [subL_at h hj hpj] at h2 ⊢
    have hij : i < j := by
      by_cases e : i < j
      · exact e
      · have := rk_mono P (show j ≤ i by omega); omega
    exact hu i j hij (by omega) h1 h2
  refine ⟨by omega, fun x hx => ?_, uniq 2 hk.sends, uniq 3 hk.takes, fun x hx hg => ?_⟩
  · rw [hlen] at hx
    obtain ⟨i, hi, hpi, rfl⟩ := rk_inv hx
    rw [subL_at h hi hpi]; exact hk.ev i (by omega)
  · rw [hlen] at hx
    obtain ⟨i, hi, hpi, rfl⟩ := rk_inv hx
    rw [subL_at h hi hpi] at hg ⊢
    obtain ⟨j, hj, h1, h2⟩ := hk.sent i (by omega) hg
    have hpj := hc.edge j i hj (by omega) hpi (by unfold edgeB; rw [h1, h2, hg]; simp)
    exact ⟨rk P j, rk_lt hj hpj, by rw [subL_at h (by omega) hpj]; exact h1, by rw [subL_at h (by omega) hpj]; exact h2⟩
end
end Go
