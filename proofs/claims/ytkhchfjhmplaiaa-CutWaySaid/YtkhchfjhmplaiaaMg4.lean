/- Texts laid together: HP10 HP11 HP12 M1 HP13 HP14 CWP. -/
import Derived.Test.YtkhchfjhmplaiaaMg3
import Derived.Maps.OwnSet
import Derived.Maps.OwnOps
import Derived.Maps.Views
import Derived.Carry
namespace Go
open Go.RowKit
/-- Two neighbours change places. -/
def swapL (h : List Ln) (i : Nat) : List Ln := (h.set i (lat h (i + 1))).set (i + 1) (lat h i)
def sw (i k : Nat) : Nat := if k = i then i + 1 else if k = i + 1 then i else k
theorem swapL_len (h : List Ln) (i : Nat) : (swapL h i).length = h.length := by simp [swapL]
theorem lat_swap {h : List Ln} {i : Nat} (hi : i + 1 < h.length) (k : Nat) : lat (swapL h i) k = lat h (sw i k) := by
  unfold swapL sw
  rw [lat_set _ _ _ _ (by simpa using hi)]
  by_cases e : i + 1 = k
  · rw [if_pos e, if_neg (by omega), if_pos (by omega)]
  · rw [if_neg e, lat_set _ _ _ _ (by omega)]
    by_cases e2 : i = k
    · rw [if_pos e2, if_pos (by omega)]
    · rw [if_neg e2, if_neg (by omega), if_neg (by omega)]
theorem sw_sw (i k : Nat) : sw i (sw i k) = k := by
  unfold sw
  by_cases e : k = i
  · rw [if_pos e, if_neg (by omega), if_pos rfl, e]
  · rw [if_neg e]
    by_cases e2 : k = i + 1
    · rw [if_pos e2, if_pos rfl, e2]
    · rw [if_neg e2, if_neg e, if_neg e2]
theorem sw_lt {i k n : Nat} (hi : i + 1 < n) (hk : k < n) : sw i k < n := by unfold sw; split <;> (try split) <;> omega
/-- The two are not bound to each other. -/
structure Free (h : List Ln) (i : Nat) : Prop where
  at_ : i + 1 < h.length
  place : (lat h i).q ≠ (lat h (i + 1)).q
  word : ¬ ((lat h i).g = 2 ∧ (lat h (i + 1)).g = 3 ∧ (lat h i).u = (lat h (i + 1)).u)
theorem swap_ok {h : List Ln} (hk : HOk h) {i : Nat} (hf : Free h i) : HOk (swapL h i) := by
  have hi := hf.at_
  have hl : ∀ k, lat (swapL h i) k = lat h (sw i k) := lat_swap hi
  have hlen := swapL_len h i
  have uniq : ∀ g : Int, (∀ x y, x < y → y < h.length → (lat h x).g = g → (lat h y).g = g → (lat h x).u ≠ (lat h y).u) → ∀ x y, x < y → y < (swapL h i).length → (lat (swapL h i) x).g = g → (lat (swapL h i) y).g = g → (lat (swapL h i) x).u ≠ (lat (swapL h i) y).u := fun g hu x y hxy hy h1 h2 => by
    rw [hl] at h1 h2 ⊢
    rw [hl]
    rw [hlen] at hy
    have hx' := sw_lt hi (show x < h.length by omega)
    have hy' := sw_lt hi hy
    have hne : sw i x ≠ sw i y := fun e => by have := congrArg (sw i) e; rw [sw_sw, sw_sw] at this; omega
    by_cases e : sw i x < sw i y
    · exact hu _ _ e hy' h1 h2
    · exact fun e2 => hu _ _ (by omega) hx' h2 h1 e2.symm
  refine ⟨by rw [hlen]; exact hk.len, fun k hlt => ?_, uniq 2 hk.sends, uniq 3 hk.takes, fun k hlt hg => ?_⟩
  · rw [hl]; rw [hlen] at hlt; exact hk.ev _ (sw_lt hi hlt)
  · rw [hl] at hg
    rw [hlen] at hlt
    obtain ⟨j, hj, h1, h2⟩ := hk.sent _ (sw_lt hi hlt) hg
    refine ⟨sw i j, ?_, by rw [hl, sw_sw]; exact h1, by rw [hl, hl, sw_sw]; exact h2⟩
    by_cases e : j = i ∧ sw i k = i + 1
    · obtain ⟨e1, e2⟩ := e
      rw [e2] at hg h2
      rw [e1] at h1 h2
      exact absurd ⟨h1, hg, h2⟩ hf.word
    · have hd : ∀ x, (x = i ∧ sw i x = i + 1) ∨ (x = i + 1 ∧ sw i x = i) ∨ (x ≠ i ∧ x ≠ i + 1 ∧ sw i x = x) := fun x => by
        unfold sw
        by_cases c1 : x = i
        · rw [if_pos c1]; exact .inl ⟨c1, rfl⟩
        · by_cases c2 : x = i + 1
          · rw [if_neg c1, if_pos c2]; exact .inr (.inl ⟨c2, rfl⟩)
          · rw [if_neg c1, if_neg c2]; exact .inr (.inr ⟨c1, c2, rfl⟩)
      have d1 := hd j
      have d2 := hd k
      omega
theorem lastIx_swap {h : List Ln} {i : Nat} (hf : Free h i) (p : Int) : ∀ k, (k ≤ i → lastIx (swapL h i) p k = lastIx h p k) ∧ (i + 2 ≤ k → lastIx (swapL h i) p k = (lastIx h p k).map (sw i)) := by
  have hl : ∀ k, lat (swapL h i) k = lat h (sw i k) := lat_swap hf.at_
  have hlow : ∀ k, k ≤ i → lastIx (swapL h i) p k = lastIx h p k := fun k => by
    induction k with
    | zero => intro _; rfl
    | succ k ih =>
      intro hk
      rw [lastIx, lastIx, hl, show sw i k = k by unfold sw; rw [if_neg (by omega), if_neg (by omega)], ih (by omega)]
  intro k
  refine ⟨hlow k, ?_⟩
  induction k with
  | zero => intro h; omega
  | succ k ih =>
    intro hk
    by_cases e : k = i + 1
    · subst e
      have hp := hf.place
      rw [lastIx, lastIx, hlow i (Nat.le_refl _), lastIx, lastIx, hl, hl, show sw i (i + 1) = i by unfold sw; rw [if_neg (by omega), if_pos rfl], show sw i i = i + 1 by unfold sw; rw [if_pos rfl]]
      by_cases e1 : (lat h i).q = p
      · have e2 : ¬ (lat h (i + 1)).q = p := fun e2 => hp (e1.trans e2.symm)
        rw [if_pos e1, if_neg e2, if_pos e1]; simp [sw]
      · rw [if_neg e1, if_neg e1]
        by_cases e2 : (lat h (i + 1)).q = p
        · rw [if_pos e2, if_pos e2]; simp [sw]
        · rw [if_neg e2, if_neg e2]
          cases hx : lastIx h p i with
          | none => rfl
          | some j =>
            have := (lastIx_lt hx).1
            simp only [Option.map_some, sw]
            rw [if_neg (by omega), if_neg (by omega)]
    · rw [lastIx, lastIx, hl, show sw i k = k by unfold sw; rw [if_neg (by omega), if_neg (by omega)], ih (by omega)]
      split
      · simp only [Option.map_some, sw]; rw [if_neg (by omega), if_neg (by omega)]
      · rfl
theorem sendIx_swap {h : List Ln} (hk : HOk h) {i : Nat} (hf : Free h i) (u : Int) : ∀ k, (k ≤ i → sendIx (swapL h i) u k = sendIx h u k) ∧ (i + 2 ≤ k → sendIx (swapL h i) u k = (sendIx h u k).map (sw i)) := by
  have hl : ∀ k, lat (swapL h i) k = lat h (sw i k) := lat_swap hf.at_
  have hlow : ∀ k, k ≤ i → sendIx (swapL h i) u k = sendIx h u k := fun k => by
    induction k with
    | zero => intro _; rfl
    | succ k ih =>
      intro hk
      rw [sendIx, sendIx, hl, show sw i k = k by unfold sw; rw [if_neg (by omega), if_neg (by omega)], ih (by omega)]
  intro k
  refine ⟨hlow k, ?_⟩
  induction k with
  | zero => intro h; omega
  | succ k ih =>
    intro hk2
    by_cases e : k = i + 1
    · subst e
      rw [sendIx, sendIx, hlow i (Nat.le_refl _), sendIx, sendIx, hl, hl, show sw i (i + 1) = i by unfold sw; rw [if_neg (by omega), if_pos rfl], show sw i i = i + 1 by unfold sw; rw [if_pos rfl]]
      by_cases e1 : (lat h i).g = 2 ∧ (lat h i).u = u
      · have e2 : ¬ ((lat h (i + 1)).g = 2 ∧ (lat h (i + 1)).u = u) := fun e2 => hk.sends i (i + 1) (by omega) hf.at_ e1.1 e2.1 (e1.2.trans e2.2.symm)
        rw [if_pos e1, if_neg e2, if_pos e1]; simp [sw]
      · rw [if_neg e1, if_neg e1]
        by_cases e2 : (lat h (i + 1)).g = 2 ∧ (lat h (i + 1)).u = u
        · rw [if_pos e2, if_pos e2]; simp [sw]
        · rw [if_neg e2, if_neg e2]
          cases hx : sendIx h u i with
          | none => rfl
          | some j =>
            have := (sendIx_lt hx).1
            simp only [Option.map_some, sw]
            rw [if_neg (by omega), if_neg (by omega)]
    · rw [sendIx, sendIx, hl, show sw i k = k by unfold sw; rw [if_neg (by omega), if_neg (by omega)], ih (by omega)]
      split
      · simp only [Option.map_some, sw]; rw [if_neg (by omega), if_neg (by omega)]
      · rfl
/-- The clocks stay. -/
theorem swap_clk {h : List Ln} (hk : HOk h) {i : Nat} (hf : Free h i) : ∀ (n k : Nat), k < n → k < h.length → clk (swapL h i) (sw i k) = clk h k := by
  have hl : ∀ k, lat (swapL h i) k = lat h (sw i k) := lat_swap hf.at_
  have hi := hf.at_
  intro n
  induction n with
  | zero => intro k h; omega
  | succ n ih =>
    intro k hn hlt
    have hsame : ∀ j, j < i → sw i j = j := fun j hj => by unfold sw; rw [if_neg (by omega), if_neg (by omega)]
    have hlastlow : ∀ (p : Int) (z : List Int) (m : Nat), m ≤ i → m ≤ n → (lastIx h p m).elim z (clk (swapL h i)) = (lastIx h p m).elim z (clk h) := fun p z m hm hmn => by
      cases hx : lastIx h p m with
      | none => rfl
      | some j =>
        have hj := (lastIx_lt hx).1
        have := ih j (by omega) (by omega)
        rw [hsame j (by omega)] at this
        exact this
    have hsendlow : ∀ (u : Int) (z : List Int) (m : Nat), m ≤ i → m ≤ n → (sendIx h u m).elim z (clk (swapL h i)) = (sendIx h u m).elim z (clk h) := fun u z m hm hmn => by
      cases hx : sendIx h u m with
      | none => rfl
      | some j =>
        have hj := (sendIx_lt hx).1
        have := ih j (by omega) (by omega)
        rw [hsame j (by omega)] at this
        exact this
    rw [clk_eq (swapL h i), clk_eq h k, hl, sw_sw]
    have h1 : (lastIx (swapL h i) (lat h k).q (sw i k)).elim zeros8 (clk (swapL h i)) = (lastIx h (lat h k).q k).elim zeros8 (clk h) := by
      by_cases c1 : k < i
      · rw [hsame k c1, (lastIx_swap hf _ k).1 (by omega), hlastlow _ _ k (by omega) (by omega)]
      · by_cases c2 : k = i
        · subst c2
          rw [show sw k k = k + 1 by unfold sw; rw [if_pos rfl], lastIx, hl, show sw k k = k + 1 by unfold sw; rw [if_pos rfl], if_neg (fun e => hf.place e.symm), (lastIx_swap hf _ k).1 (by omega), hlastlow _ _ k (by omega) (by omega)]
        · by_cases c3 : k = i + 1
          · subst c3
            rw [show sw i (i + 1) = i by unfold sw; rw [if_neg (by omega), if_pos rfl], lastIx, if_neg hf.place, (lastIx_swap hf _ i).1 (by omega), hlastlow _ _ i (by omega) (by omega)]
          · rw [show sw i k = k by unfold sw; rw [if_neg c2, if_neg c3], (lastIx_swap hf _ k).2 (by omega)]
            cases hx : lastIx h (lat h k).q k with
            | none => rfl
            | some j => have hj := (lastIx_lt hx).1; exact ih j (by omega) (by omega)
    have h2 : (lat h k).g = 3 → (sendIx (swapL h i) (lat h k).u (sw i k)).elim [] (clk (swapL h i)) = (sendIx h (lat h k).u k).elim [] (clk h) := fun hg => by
      by_cases c1 : k < i
      · rw [hsame k c1, (sendIx_swap hk hf _ k).1 (by omega), hsendlow _ _ k (by omega) (by omega)]
      · by_cases c2 : k = i
        · subst c2
          obtain ⟨j, hj⟩ := sendIx_take hk hlt hg
          have hjl := sendIx_lt hj
          have hno : ¬ ((lat h (k + 1)).g = 2 ∧ (lat h (k + 1)).u = (lat h k).u) := fun e => hk.sends j (k + 1) (by omega) hi hjl.2.1 e.1 (hjl.2.2.trans e.2.symm)
          rw [show sw k k = k + 1 by unfold sw; rw [if_pos rfl], sendIx, hl, show sw k k = k + 1 by unfold sw; rw [if_pos rfl], if_neg hno, (sendIx_swap hk hf _ k).1 (by omega), hsendlow _ _ k (by omega) (by omega)]
        · by_cases c3 : k = i + 1
          · subst c3
            have hno : ¬ ((lat h i).g = 2 ∧ (lat h i).u = (lat h (i + 1)).u) := fun e => hf.word ⟨e.1, hg, e.2⟩
            rw [show sw i (i + 1) = i by unfold sw; rw [if_neg (by omega), if_pos rfl], sendIx, if_neg hno, (sendIx_swap hk hf _ i).1 (by omega), hsendlow _ _ i (by omega) (by omega)]
          · rw [show sw i k = k by unfold sw; rw [if_neg c2, if_neg c3], (sendIx_swap hk hf _ k).2 (by omega)]
            cases hx : sendIx h (lat h k).u k with
            | none => rfl
            | some j => have hj := (sendIx_lt hx).1; exact ih j (by omega) (by omega)
    rw [h1]
    by_cases hg : (lat h k).g = 3
    · rw [if_pos hg, if_pos hg, h2 hg]
    · rw [if_neg hg, if_neg hg]
theorem swap_clk' {h : List Ln} (hk : HOk h) {i : Nat} (hf : Free h i) {k : Nat} (hl : k < h.length) : clk (swapL h i) k = clk h (sw i k) := by
  have := swap_clk hk hf (sw i k + 1) (sw i k) (by omega) (sw_lt hf.at_ hl)
  rw [sw_sw] at this
  exact this
/-- Of two neighbours, none ahead of the other: they are not bound. -/
theorem free_of {h : List Ln} (hk : HOk h) {i : Nat} (hi : i + 1 < h.length) (hn : lessL (clk h i) (clk h (i + 1)) = false) : Free h i := by
  refine ⟨hi, fun e => ?_, fun e => ?_⟩
  · have := same_less hk (show i < i + 1 by omega) hi e
    rw [hn] at this; cases this
  · have h1 : edgeB h i (i + 1) = true := by unfold edgeB; rw [e.1, e.2.1, e.2.2]; simp
    have h2 := reach_le hk (.step .here (show i < i + 1 by omega) h1) (by omega)
    have := le_less hk (show i < i + 1 by omega) hi h2
    rw [hn] at this; cases this
end Go
namespace Go
open Go.RowKit
/-- The last one below m of which c is so. -/
def lastB (c : Nat → Bool) : Nat → Option Nat
  | 0 => none
  | m + 1 => if c m = true then some m else lastB c m
theorem lastIx_B (h : List Ln) (p : Int) (m : Nat) : lastIx h p m = lastB (fun j => decide ((lat h j).q = p)) m := by
  induction m with
  | zero => rfl
  | succ m ih => rw [lastIx, lastB, ih]; simp only [decide_eq_true_eq]
theorem sendIx_B (h : List Ln) (u : Int) (m : Nat) : sendIx h u m = lastB (fun j => decide ((lat h j).g = 2 ∧ (lat h j).u = u)) m := by
  induction m with
  | zero => rfl
  | succ m ih => rw [sendIx, lastB, ih]; simp only [decide_eq_true_eq]
theorem lastB_lt {c : Nat → Bool} {m j : Nat} (h : lastB c m = some j) : j < m ∧ c j = true := by
  induction m with
  | zero => cases h
  | succ m ih =>
    rw [lastB] at h
    split at h
    · cases h; exact ⟨by omega, by assumption⟩
    · have := ih h; exact ⟨by omega, this.2⟩
theorem lastB_none {c : Nat → Bool} {m : Nat} (h : lastB c m = none) : ∀ j, j < m → c j = false := by
  induction m with
  | zero => intro j hj; omega
  | succ m ih =>
    rw [lastB] at h
    split at h
    · cases h
    · rename_i hc
      intro j hj
      by_cases e : j = m
      · subst e; simpa using hc
      · exact ih h j (by omega)
theorem lastB_and {P c : Nat → Bool} {m : Nat} (hP : ∀ j, lastB c m = some j → P j = true) : lastB (fun j => P j && c j) m = lastB c m := by
  induction m with
  | zero => rfl
  | succ m ih =>
    rw [lastB, lastB]
    by_cases e : c m = true
    · have := hP m (by rw [lastB, if_pos e])
      rw [if_pos e, if_pos (by rw [this, e]; rfl)]
    · rw [if_neg e, if_neg (by simp [e])]
      exact ih fun j hj => hP j (by rw [lastB, if_neg e]; exact hj)
/-- How many below k are chosen. -/
def rk (P : Nat → Bool) (k : Nat) : Nat := ((List.range k).filter P).length
theorem rk_succ (P : Nat → Bool) (k : Nat) : rk P (k + 1) = rk P k + (if P k = true then 1 else 0) := by
  unfold rk
  rw [List.range_succ, List.filter_append, List.length_append]
  by_cases e : P k = true
  · simp [e]
  · simp [e]
theorem rk_mono (P : Nat → Bool) {i k : Nat} (h : i ≤ k) : rk P i ≤ rk P k := by
  induction k with
  | zero => rw [show i = 0 by omega]; exact Nat.le_refl _
  | succ k ih =>
    by_cases e : i = k + 1
    · rw [e]; exact Nat.le_refl _
    · have := ih (by omega); rw [rk_succ]; omega
theorem rk_lt {P : Nat → Bool} {i k : Nat} (h : i < k) (hi : P i = true) : rk P i < rk P k := by
  have h1 := rk_mono P (show i + 1 ≤ k from h)
  rw [rk_succ, if_pos hi] at h1
  omega
theorem rk_inv {P : Nat → Bool} {n x : Nat} (h : x < rk P n) : ∃ k, k < n ∧ P k = true ∧ rk P k = x := by
  induction n with
  | zero => simp [rk] at h
  | succ n ih =>
    rw [rk_succ] at h
    by_cases e : x < rk P n
    · obtain ⟨k, h1, h2⟩ := ih e
      exact ⟨k, by omega, h2⟩
    · by_cases hp : P n = true
      · rw [if_pos hp] at h
        exact ⟨n, by omega, hp, by omega⟩
      · rw [if_neg hp] at h; omega
/-- The chosen events. -/
def subL (h : List Ln) (P : Nat → Bool) (n : Nat) : List Ln := ((List.range n).filter P).map (lat h)
theorem subL_len (h : List Ln) (P : Nat → Bool) (n : Nat) : (subL h P n).length = rk P n := by simp [subL, rk]
theorem subL_at (h : List Ln) {P : Nat → Bool} {n k : Nat} (hk : k < n) (hp : P k = true) : lat (subL h P n) (rk P k) = lat h k := by
  induction n with
  | zero => omega
  | succ n ih =>
    have hs : subL h P (n + 1) = subL h P n ++ (if P n = true then [lat h n] else []) := by
      unfold subL
      rw [List.range_succ, List.filter_append, List.map_append]
      by_cases e : P n = true
      · simp [e]
      · simp [e]
    rw [hs]
    by_cases e : k = n
    · subst e
      rw [if_pos hp]
      have hl := subL_len h P k
      show List.getD _ _ _ = _
      rw [List.getD_eq_getElem?_getD, List.getElem?_append_right (by omega), show rk P k - (subL h P k).length = 0 by omega]
      rfl
    · have h1 := ih (by omega)
      have h2 := rk_lt (show k < n by omega) hp
      show List.getD _ _ _ = _
      rw [List.getD_eq_getElem?_getD, List.getElem?_append_left (by rw [subL_len]; omega), ← List.getD_eq_getElem?_getD]
      exact h1
theorem lastB_rk {P c c' : Nat → Bool} {m : Nat} (hc : ∀ j, j < m → P j = true → c' (rk P j) = c j) : lastB c' (rk P m) = (lastB (fun j => P j && c j) m).map (rk P) := by
  induction m with
  | zero => rfl
  | succ m ih =>
    have h1 := ih fun j hj => hc j (by omega)
    rw [rk_succ, lastB]
    by_cases e : P m = true
    · rw [if_pos e, lastB, hc m (by omega) e, h1]
      by_cases e2 : c m = true
      · rw [if_pos e2, if_pos (by rw [e, e2]; rfl)]; rfl
      · rw [if_neg e2, if_neg (by simp [e2])]
    · rw [if_neg e, if_neg (by simp [e]), Nat.add_zero, h1]
/-- A choice that is closed downwards. -/
structure Closed (h : List Ln) (P : Nat → Bool) : Prop where
  edge : ∀ j k, j < k → k < h.length → P k = true → edgeB h j k = true → P j = true
section
variable {h : List Ln} {P : Nat → Bool}
theorem sub_last (hc : Closed h P) {n k : Nat} (hn : n ≤ h.length) (hk : k < n) (hp : P k = true) : lastIx (subL h P n) (lat h k).q (rk P k) = (lastIx h (lat h k).q k).map (rk P) := by
  rw [lastIx_B, lastIx_B, lastB_rk (c := fun j => decide ((lat h j).q = (lat h k).q)) (fun j hj hpj => by rw [subL_at h (by omega) hpj]), lastB_and]
  intro j hj
  obtain ⟨h1, h2⟩ := lastB_lt hj
  exact hc.edge j k h1 (by omega) hp (by unfold edgeB; rw [h2]; rfl)
theorem sub_send (hc : Closed h P) {n k : Nat} (hn : n ≤ h.length) (hk : k < n) (hp : P k = true) (hg : (lat h k).g = 3) : sendIx (subL h P n) (lat h k).u (rk P k) = (sendIx h (lat h k).u k).map (rk P) := by
  rw [sendIx_B, sendIx_B, lastB_rk (c := fun j => decide ((lat h j).g = 2 ∧ (lat h j).u = (lat h k).u)) (fun j hj hpj => by rw [subL_at h (by omega) hpj]), lastB_and]
  intro j hj
  obtain ⟨h1, h2⟩ := lastB_lt hj
  have h3 := of_decide_eq_true h2
  exact hc.edge j k h1 (by omega) hp (by unfold edgeB; rw [h3.1, h3.2, hg]; simp)
/-- The clocks stay. -/
theorem sub_clk (hk : HOk h) (hc : Closed h P) {n : Nat} (hn : n ≤ h.length) : ∀ (m k : Nat), k < m → k < n → P k = true → clk (subL h P n) (rk P k) = clk h k := by
  intro m
  induction m with
  | zero => intro k h; omega
  | succ m ih =>
    intro k hm hkn hp
    rw [clk_eq (subL h P n), clk_eq h k, subL_at h hkn hp, sub_last hc hn hkn hp]
    have h1 : ((lastIx h (lat h k).q k).map (rk P)).elim zeros8 (clk (subL h P n)) = (lastIx h (lat h k).q k).elim zeros8 (clk h) := by
      cases hx : lastIx h (lat h k).q k with
      | none => rfl
      | some j =>
        have hj := lastIx_lt hx
        have hpj := hc.edge j k hj.1 (by omega) hp (by unfold edgeB; rw [hj.2.1]; simp)
        exact ih j (by omega) (by omega) hpj
    rw [h1]
    by_cases hg : (lat h k).g = 3
    · rw [if_pos hg, if_pos hg, sub_send hc hn hkn hp hg]
      obtain ⟨j, hj⟩ := sendIx_take hk (show k < h.length by omega) hg
      have hjl := sendIx_lt hj
      have hpj := hc.edge j k hjl.1 (by omega) hp (by unfold edgeB; rw [hjl.2.1, hjl.2.2, hg]; simp)
      have h2 := ih j (by omega) (by omega) hpj
      rw [hj]
      show bump (joinL _ (clk (subL h P n) (rk P j))) _ = bump (joinL _ (clk h j)) _
      rw [h2]
    · rw [if_neg hg, if_neg hg]
theorem sub_ok (hk : HOk h) (hc : Closed h P) {n : Nat} (hn : n ≤ h.length) : HOk (subL h P n) := by
  have hlen := subL_len h P n
  have hrn : rk P n ≤ n := by unfold rk; exact Nat.le_trans (List.length_filter_le _ _) (by simp)
  have hl := hk.len
  have uniq : ∀ g : Int, (∀ x y, x < y → y < h.length → (lat h x).g = g → (lat h y).g = g → (lat h x).u ≠ (lat h y).u) → ∀ x y, x < y → y < (subL h P n).length → (lat (subL h P n) x).g = g → (lat (subL h P n) y).g = g → (lat (subL h P n) x).u ≠ (lat (subL h P n) y).u := fun g hu x y hxy hy h1 h2 => by
    rw [hlen] at hy
    obtain ⟨i, hi, hpi, rfl⟩ := rk_inv (show x < rk P n by omega)
    obtain ⟨j, hj, hpj, rfl⟩ := rk_inv hy
    rw [subL_at h hi hpi] at h1 ⊢
    rw [subL_at h hj hpj] at h2 ⊢
    have hij : i < j := by
      by_cases e : i < j
      · exact e
      · have := rk_mono P (show j ≤ i by omega); omega
    exact hu i j hij (by omega) h1 h2
  refine ⟨by omega, fun x hx => ?_, uniq 2 hk.sends, uniq 3 hk.takes, fun x hx hg => ?_⟩
  · rw [hlen] at hx
    obtain ⟨i, hi, hpi, rfl⟩ := rk_inv hx
    rw [subL_at h hi hpi]; exact hk.ev i (by omega)
  · rw [hlen] at hx
    obtain ⟨i, hi, hpi, rfl⟩ := rk_inv hx
    rw [subL_at h hi hpi] at hg ⊢
    obtain ⟨j, hj, h1, h2⟩ := hk.sent i (by omega) hg
    have hpj := hc.edge j i hj (by omega) hpi (by unfold edgeB; rw [h1, h2, hg]; simp)
    exact ⟨rk P j, rk_lt hj hpj, by rw [subL_at h (by omega) hpj]; exact h1, by rw [subL_at h (by omega) hpj]; exact h2⟩
end
end Go
namespace Go
open Go.RowKit
/-- What f says of the chosen ones. -/
def pick {α : Type} (P : Nat → Bool) (f : Nat → α) (n : Nat) : List α := ((List.range n).filter P).map f
theorem pick_succ {α : Type} (P : Nat → Bool) (f : Nat → α) (k : Nat) : pick P f (k + 1) = pick P f k ++ (if P k = true then [f k] else []) := by
  unfold pick
  rw [List.range_succ, List.filter_append, List.map_append]
  by_cases e : P k = true
  · simp [e]
  · simp [e]
theorem pick_len {α : Type} (P : Nat → Bool) (f : Nat → α) (k : Nat) : (pick P f k).length = rk P k := by simp [pick, rk]
theorem sw_same {i k : Nat} (h1 : k ≠ i) (h2 : k ≠ i + 1) : sw i k = k := by unfold sw; rw [if_neg h1, if_neg h2]
theorem sw_i (i : Nat) : sw i i = i + 1 := by unfold sw; rw [if_pos rfl]
theorem sw_i1 (i : Nat) : sw i (i + 1) = i := by unfold sw; rw [if_neg (by omega), if_pos rfl]
theorem pick_swap {α : Type} {P P' : Nat → Bool} {f f' : Nat → α} {i n : Nat} (hi : i + 1 < n) (hP : ∀ k, k < n → P' k = P (sw i k)) (hf : ∀ k, k < n → f' k = f (sw i k)) (hno : ¬ (P i = true ∧ P (i + 1) = true)) : pick P' f' n = pick P f n := by
  have hlow : ∀ m, m ≤ i → pick P' f' m = pick P f m := fun m => by
    induction m with
    | zero => intro _; rfl
    | succ m ih =>
      intro hm
      rw [pick_succ, pick_succ, ih (by omega), hP m (by omega), hf m (by omega), sw_same (by omega) (by omega)]
  have hhigh : ∀ m, i + 2 ≤ m → m ≤ n → pick P' f' m = pick P f m := fun m => by
    induction m with
    | zero => intro h; omega
    | succ m ih =>
      intro h1 h2
      by_cases e : m = i + 1
      · subst e
        rw [pick_succ, pick_succ, pick_succ P f, pick_succ P f, hlow i (Nat.le_refl _), hP i (by omega), hf i (by omega), hP (i + 1) (by omega), hf (i + 1) (by omega), sw_i, sw_i1]
        by_cases e1 : P i = true
        · have e2 : ¬ P (i + 1) = true := fun e2 => hno ⟨e1, e2⟩
          rw [if_neg e2, if_pos e1]; simp
        · rw [if_neg e1]; simp
      · rw [pick_succ, pick_succ, ih (by omega) (by omega), hP m (by omega), hf m (by omega), sw_same (by omega) (by omega)]
  exact hhigh n (by omega) (Nat.le_refl _)
def plQ (h : List Ln) (p : Int) (j : Nat) : Bool := decide ((lat h j).q = p)
/-- The clocks of a place. -/
def clkAt (h : List Ln) (p : Int) : List (List Int) := pick (plQ h p) (clk h) h.length
def evAt (h : List Ln) (p : Int) : List Ln := pick (plQ h p) (lat h) h.length
/-- SameAt at every place. -/
structure SameAt (h g : List Ln) : Prop where
  len : g.length = h.length
  ev : ∀ p, evAt g p = evAt h p
  ck : ∀ p, clkAt g p = clkAt h p
theorem SameAt.refl (h : List Ln) : SameAt h h := ⟨rfl, fun _ => rfl, fun _ => rfl⟩
theorem SameAt.swap {h g : List Ln} (r : SameAt h g) (hk : HOk g) {i : Nat} (hf : Free g i) : SameAt h (swapL g i) := by
  have hi := hf.at_
  have hl := swapL_len g i
  have hno : ∀ p, ¬ (plQ g p i = true ∧ plQ g p (i + 1) = true) := fun p e => by
    unfold plQ at e
    have e1 := of_decide_eq_true e.1
    have e2 := of_decide_eq_true e.2
    exact hf.place (e1.trans e2.symm)
  have hP : ∀ p k, plQ (swapL g i) p k = plQ g p (sw i k) := fun p k => by unfold plQ; rw [lat_swap hi]
  refine ⟨hl.trans r.len, fun p => ?_, fun p => ?_⟩
  · rw [← r.ev p]
    unfold evAt
    rw [hl]
    exact pick_swap hi (fun k _ => hP p k) (fun k _ => lat_swap hi k) (hno p)
  · rw [← r.ck p]
    unfold clkAt
    rw [hl]
    exact pick_swap hi (fun k _ => hP p k) (fun k hkl => swap_clk' hk hf hkl) (hno p)
/-- A sound exchange of neighbours at two places: they are not bound. -/
theorem free_sound {g : List Ln} (hk : HOk g) {i : Nat} (hi : i + 1 < g.length) (hq : (lat g i).q ≠ (lat g (i + 1)).q) (hs : HOk (swapL g i)) : Free g i := by
  refine ⟨hi, hq, fun e => ?_⟩
  have hl := swapL_len g i
  have e1 : lat (swapL g i) i = lat g (i + 1) := by rw [lat_swap hi, sw_i]
  obtain ⟨j, hj, h1, h2⟩ := hs.sent i (by omega) (by rw [e1]; exact e.2.1)
  rw [lat_swap hi, sw_same (by omega) (by omega)] at h1 h2
  rw [e1] at h2
  exact hk.sends j i hj (by omega) h1 e.1 (h2.trans e.2.2.symm)
end Go
/- A map with integers for keys, seen as a function: what each key holds. -/
namespace Go
open Go.Maps (Keyed)
/-- An element is kept as it is. -/
def asIs (v : Value) : Option (DataW Value × List MemPlace) := some (.held v, [])
def MapF (w : World) (P : Program) (k : TypeId) (b n : Nat) (f : Int → Option Value) : Prop :=
  ∃ D : DataW Value, w.ownsMap P k asIs b n D ∧ Maps.IsMap D ∧ (∀ x z, D.atKey (.int .i64 x) (.held z) = .held ((f x).getD z)) ∧ ∀ x, Maps.has D (.int .i64 x) = (f x).isSome
section
variable {w w' : World} {P : Program} {k : TypeId} {b n : Nat} {f : Int → Option Value}
theorem MapF.made (w : World) (P : Program) (k : TypeId) : MapF (w.alloc (.map #[] 0)) P k w.heap.size 0 (fun _ => none) :=
  ⟨.map [], World.ownsMap_made w P k asIs, ⟨[], rfl⟩, fun _ _ => rfl, fun _ => rfl⟩
theorem MapF.lt (h : MapF w P k b n f) : b < w.heap.size := let ⟨_, h1, _⟩ := h; h1.lt
theorem MapF.block (h : MapF w P k b n f) (hb : w'.heap[b]? = w.heap[b]?) : MapF w' P k b n f := by
  obtain ⟨D, ⟨es, clock, h1, h2⟩, h3⟩ := h
  exact ⟨D, ⟨es, clock, hb.trans h1, h2⟩, h3⟩
theorem MapF.keep {S : List Nat} (h : MapF w P k b n f) (hk : Keep S w w') (hs : b ∉ S) : MapF w' P k b n f := h.block (hk.block b h.lt hs)
theorem MapF.drew (h : MapF w P k b n f) : MapF w.drew P k b n f := h
theorem MapF.mono (h : MapF w P k b n f) {n' : Nat} (hn : n ≤ n') : MapF w P k b n' f := let ⟨D, h1, h2⟩ := h; ⟨D, h1.mono hn, h2⟩
theorem MapF.notCells (h : MapF w P k b n f) {c : Nat} {cs : Array Value} {T : TypeId} {g : Nat × Nat} (hc : w.heap[c]? = some (.cells cs T g)) : b ≠ c := by
  rintro rfl
  obtain ⟨D, ⟨es, clock, h1, _⟩, _⟩ := h
  rw [hc] at h1
  cases h1
theorem keyI64 {P : Program} {k : TypeId} (hk : P.underlying k = some (.int .i64)) {x : Int} (hx : (Lit.int .i64 x).wf = true) : keyOf P k (.int .i64 x) = some (.int .i64 x) := by
  simp [keyOf, hk, mapKey, hx]
end
/-- 'm[k]' at the operation. -/
theorem wpList_lookup_f {P : Program} (w : World) {ops : Array Oper} {rest : List Oper} {o : Oper} {a : Act} {Q : Exit → Act → World → Prop}
    (hg : o.guard = none) (m x : Operand) (t : TypeId) (hop : o.op = Op.lookup t m x false)
    (k e : TypeId) (ht : P.underlying t = some (.map k e)) (hki : P.underlying k = some (.int .i64)) (z : Value) (hz : (zeroValue e).run P w = .ok z w) (b n : Nat) (f : Int → Option Value)
    (hm : a.eval m = .map (some b)) (hown : MapF w P k b n f) (key : Int) (hx : a.eval x = .int .i64 key) (hwf : (Lit.int .i64 key).wf = true)
    (hK : wpList P ops Q rest (a.put o.dst ((f key).getD z)) w) : wpList P ops Q (o :: rest) a w := by
  obtain ⟨D, h1, h2, h3, _⟩ := hown
  refine wpList_plain hg fun K' hK' => ?_
  obtain ⟨v, ps, hrun, hv⟩ := h1.lookup (Maps.int_keyed hki) ht hz (show asIs z = some (.held z, []) from rfl) (keyI64 hki hwf)
  have hve : v = (f key).getD z := by
    rw [h3] at hv
    unfold asIs at hv
    injection hv with hv
    injection hv with hv _
    injection hv
  subst hve
  unfold Oper.wp
  simp [execOp, hop, hm, hx, hrun, Result.andThen]
  exact hK' _ _ hK
/-- 'v, ok := m[k]' at the operation. -/
theorem wpList_lookup_f2 {P : Program} (w : World) {ops : Array Oper} {rest : List Oper} {o : Oper} {a : Act} {Q : Exit → Act → World → Prop}
    (hg : o.guard = none) (m x : Operand) (t : TypeId) (hop : o.op = Op.lookup t m x true)
    (k e : TypeId) (ht : P.underlying t = some (.map k e)) (hki : P.underlying k = some (.int .i64)) (z : Value) (hz : (zeroValue e).run P w = .ok z w) (b n : Nat) (f : Int → Option Value)
    (hm : a.eval m = .map (some b)) (hown : MapF w P k b n f) (key : Int) (hx : a.eval x = .int .i64 key) (hwf : (Lit.int .i64 key).wf = true)
    (hK : wpList P ops Q rest (a.put o.dst (.tuple #[(f key).getD z, .bool (f key).isSome])) w) : wpList P ops Q (o :: rest) a w := by
  obtain ⟨D, h1, h2, h3, h4⟩ := hown
  refine wpList_lookup_own_ok w hg m x t hop k e (Maps.int_keyed hki) ht asIs hz (.held z) [] rfl b n D hm h1 _ _ hx (keyI64 hki hwf) fun v ps hv => ?_
  rw [h3] at hv
  unfold asIs at hv
  injection hv with hv
  injection hv with hv _
  injection hv with hv
  subst hv
  rw [h4]
  exact hK
/-- 'm[k] = v' at the operation. -/
theorem wpList_update_f {P : Program} (w : World) {ops : Array Oper} {rest : List Oper} {o : Oper} {a : Act} {Q : Exit → Act → World → Prop}
    (hg : o.guard = none) (m x v : Operand) (t : TypeId) (hop : o.op = Op.mapUpdate t m x v)
    (k e : TypeId) (ht : P.underlying t = some (.map k e)) (hki : P.underlying k = some (.int .i64)) (b n : Nat) (f : Int → Option Value)
    (hm : a.eval m = .map (some b)) (hown : MapF w P k b n f) (hn : n < maxLen) (key : Int) (val : Value) (hx : a.eval x = .int .i64 key) (hv : a.eval v = val) (hwf : (Lit.int .i64 key).wf = true)
    (hK : ∀ w', MapF w' P k b (n + 1) (fun y => if y = key then some val else f y) → w.grownBy w' (some b) → wpList P ops Q rest (a.put o.dst undef) w') : wpList P ops Q (o :: rest) a w := by
  obtain ⟨D, h1, h2, h3, h4⟩ := hown
  have hkey := keyI64 hki hwf
  have hkl := (Maps.int_keyed hki).key hkey
  refine wpList_mapUpdate_own w hg m x v t hop k e (Maps.int_keyed hki) ht asIs b n D hm h1 hn _ val _ hx hv hkey (.held val) [] rfl fun w' hown' hgr => hK w' ⟨D.put (.int .i64 key) (.held val), hown', ?_, fun y z => ?_, fun y => ?_⟩ hgr
  · obtain ⟨es, rfl⟩ := h2
    exact ⟨_, rfl⟩
  · by_cases e1 : y = key
    · subst e1
      rw [Maps.atKey_put_same h2 hkl]; simp
    · rw [Maps.atKey_put_other (fun h => e1 (by injection h)), h3]; simp [e1]
  · by_cases e1 : y = key
    · subst e1
      rw [Maps.has_put_same h2 hkl]; simp
    · rw [Maps.has_put_other (fun h => e1 (by injection h)), h4]; simp [e1]
end Go
namespace Go
open Go.RowKit
/-- The last event of a kind with a message, of the first k. -/
def kindIx (h : List Ln) (g u : Int) (k : Nat) : Option Nat := lastB (fun j => decide ((lat h j).g = g ∧ (lat h j).u = u)) k
/-- An event's number at its place. -/
def posN (h : List Ln) (j : Nat) : Nat := rk (plQ h (lat h j).q) j
def spotV (h : List Ln) (j : Nat) : Value := .agg #[.int .i64 (lat h j).q, .int .i64 (posN h j)]
def FG (h : List Ln) (g : Int) (k : Nat) (x : Int) : Option Value := (kindIx h g x k).map (spotV h)
theorem FG_zero (h : List Ln) (g : Int) : FG h g 0 = fun _ => none := rfl
theorem FG_put {h : List Ln} {g : Int} {k : Nat} (hg : (lat h k).g = g) : FG h g (k + 1) = fun y => if y = (lat h k).u then some (spotV h k) else FG h g k y := by
  funext y
  unfold FG kindIx
  rw [lastB]
  by_cases e : y = (lat h k).u
  · rw [if_pos (by simp only [decide_eq_true_eq]; exact ⟨hg, e.symm⟩), if_pos e]; rfl
  · rw [if_neg (by simp only [decide_eq_true_eq]; exact fun h => e h.2.symm), if_neg e]
theorem FG_same {h : List Ln} {g : Int} {k : Nat} (hg : (lat h k).g ≠ g) : FG h g (k + 1) = FG h g k := by
  funext y
  unfold FG kindIx
  rw [lastB, if_neg (by simp only [decide_eq_true_eq]; exact fun h => hg h.1)]
theorem kindIx_some {h : List Ln} {g u : Int} {k j : Nat} (hj : kindIx h g u k = some j) : j < k ∧ (lat h j).g = g ∧ (lat h j).u = u := by
  obtain ⟨h1, h2⟩ := lastB_lt hj
  exact ⟨h1, (of_decide_eq_true h2).1, (of_decide_eq_true h2).2⟩
theorem kindIx_none {h : List Ln} {g u : Int} {k : Nat} (hj : kindIx h g u k = none) : ∀ j, j < k → ¬ ((lat h j).g = g ∧ (lat h j).u = u) := fun j hjk => by
  have := lastB_none hj j hjk
  simpa using this
theorem kindIx_eq {h : List Ln} {g : Int} {k j : Nat} (hu : ∀ x y, x < y → y < k → (lat h x).g = g → (lat h y).g = g → (lat h x).u ≠ (lat h y).u) (hj : j < k) (hg : (lat h j).g = g) : kindIx h g (lat h j).u k = some j := by
  cases hx : kindIx h g (lat h j).u k with
  | none => exact absurd ⟨hg, rfl⟩ (kindIx_none hx j hj)
  | some i =>
    obtain ⟨h1, h2, h3⟩ := kindIx_some hx
    by_cases e : i = j
    · rw [e]
    · by_cases e2 : i < j
      · exact absurd h3 (hu i j e2 hj h2 hg)
      · exact absurd h3.symm (hu j i (by omega) h1 hg h2)
end Go
namespace Go
open Go.RowKit
/-- Is an event in a cut? -/
def inC (h : List Ln) (c : List Int) (j : Nat) : Bool := decide ((posN h j : Int) < c.getD (lat h j).q.toNat 0)
/-- The send of a message. -/
def sendOf (h : List Ln) (k : Nat) : Option Nat := kindIx h 2 (lat h k).u h.length
/-- Is a take in a cut whose send is not? -/
def badB (h : List Ln) (c : List Int) (k : Nat) : Bool := inC h c k && !(sendOf h k).elim false (inC h c)
def wholeB (h : List Ln) (c : List Int) : Bool := (List.range h.length).all fun k => !(decide ((lat h k).g = 3) && badB h c k)
theorem wholeB_iff (h : List Ln) (c : List Int) : wholeB h c = true ↔ ∀ k, k < h.length → (lat h k).g = 3 → badB h c k = false := by
  unfold wholeB
  rw [List.all_eq_true]
  constructor
  · intro H k hk hg
    have := H k (List.mem_range.2 hk)
    rw [decide_eq_true hg] at this
    simpa using this
  · intro H k hk
    have := H k (List.mem_range.1 hk)
    by_cases hg : (lat h k).g = 3
    · rw [this hg]; simp
    · rw [decide_eq_false hg]; rfl
theorem sendOf_some {h : List Ln} (hk : HOk h) {k : Nat} (hl : k < h.length) (hg : (lat h k).g = 3) : ∃ j, sendOf h k = some j ∧ j < k ∧ (lat h j).g = 2 ∧ (lat h j).u = (lat h k).u := by
  obtain ⟨j, h1, h2, h3⟩ := hk.sent k hl hg
  have := kindIx_eq (h := h) (g := 2) (k := h.length) (j := j) (fun x y hxy hy => hk.sends x y hxy hy) (by omega) h2
  exact ⟨j, by unfold sendOf; rw [← h3]; exact this, h1, h2, h3⟩
theorem takeIx {h : List Ln} (_ : HOk h) {x : Int} {v : Value} (hx : FG h 3 h.length x = some v) : ∃ k, k < h.length ∧ (lat h k).g = 3 ∧ (lat h k).u = x ∧ v = spotV h k := by
  unfold FG at hx
  cases hj : kindIx h 3 x h.length with
  | none => rw [hj] at hx; cases hx
  | some k =>
    rw [hj] at hx
    obtain ⟨h1, h2, h3⟩ := kindIx_some hj
    exact ⟨k, h1, h2, h3, (Option.some.inj hx).symm⟩
theorem take_has {h : List Ln} (hk : HOk h) {k : Nat} (hl : k < h.length) (hg : (lat h k).g = 3) : FG h 3 h.length (lat h k).u = some (spotV h k) := by
  unfold FG
  rw [kindIx_eq (fun x y hxy hy => hk.takes x y hxy hy) hl hg]; rfl
theorem send_get {h : List Ln} (_ : HOk h) {k j : Nat} (hs : sendOf h k = some j) : FG h 2 h.length (lat h k).u = some (spotV h j) := by
  unfold FG
  unfold sendOf at hs
  rw [hs]; rfl
theorem posN_lt {h : List Ln} (j : Nat) (hj : j < h.length) : posN h j < h.length := by
  unfold posN
  have := rk_mono (plQ h (lat h j).q) (show j ≤ h.length by omega)
  have h1 : rk (plQ h (lat h j).q) j ≤ j := by unfold rk; exact Nat.le_trans (List.length_filter_le _ _) (by simp)
  omega
end Go

namespace Go
open Go.RowKit
/-- A cut of eight numbers within the history. -/
structure CutOk (h : List Ln) (x : List Int) : Prop where
  len : x.length = 8
  bd : ∀ p : Nat, p < 8 → 0 ≤ x.getD p 0 ∧ x.getD p 0 ≤ rk (plQ h p) h.length
def InC (a b : List Int) : Prop := ∀ p : Nat, p < 8 → a.getD p 0 ≤ b.getD p 0
theorem getD_set8 {x : List Int} (hl : x.length = 8) {p : Nat} (hp : p < 8) (v : Int) (r : Nat) : (x.set p v).getD r 0 = if r = p then v else x.getD r 0 := by
  simp only [List.getD_eq_getElem?_getD, List.getElem?_set]
  by_cases e : p = r
  · subst e; simp [hl, hp]
  · rw [if_neg e, if_neg (fun h => e h.symm)]
theorem CutOk.mem {h : List Ln} {x : List Int} (c : CutOk h x) : ∀ z ∈ x, 0 ≤ z ∧ z ≤ h.length := fun z hz => by
  obtain ⟨p, hp, rfl⟩ := List.getElem_of_mem hz
  have h1 := c.bd p (by rw [← c.len]; exact hp)
  have h2 : rk (plQ h p) h.length ≤ h.length := by unfold rk; exact Nat.le_trans (List.length_filter_le _ _) (by simp)
  rw [List.getD_eq_getElem?_getD, List.getElem?_eq_getElem hp, Option.getD_some] at h1
  omega
theorem rk_le' (P : Nat → Bool) (k : Nat) : rk P k ≤ k := by unfold rk; exact Nat.le_trans (List.length_filter_le _ _) (by simp)
theorem pos_lt {h : List Ln} {j : Nat} (hj : j < h.length) : posN h j < rk (plQ h (lat h j).q) h.length := rk_lt hj (by unfold plQ; simp)
theorem inC_iff {h : List Ln} {c : List Int} {j p : Nat} (hp : (lat h j).q = p) : inC h c j = true ↔ (posN h j : Int) < c.getD p 0 := by
  unfold inC; rw [hp]; simp
/-- What a bad take says. -/
theorem bad_iff {h : List Ln} (hk : HOk h) {c : List Int} {k : Nat} (hl : k < h.length) (hg : (lat h k).g = 3) : ∃ j p1 p2 : Nat, sendOf h k = some j ∧ j < h.length ∧ (lat h k).q = p1 ∧ (lat h j).q = p2 ∧ p1 < 8 ∧ p2 < 8 ∧ (badB h c k = true ↔ (posN h k : Int) < c.getD p1 0 ∧ c.getD p2 0 ≤ posN h j) := by
  obtain ⟨j, hs, hjk, hjg, hju⟩ := sendOf_some hk hl hg
  have he1 := hk.ev k hl
  have he2 := hk.ev j (by omega)
  refine ⟨j, (lat h k).q.toNat, (lat h j).q.toNat, hs, by omega, by omega, by omega, by omega, by omega, ?_⟩
  unfold badB
  rw [hs]
  show (inC h c k && !inC h c j) = true ↔ _
  rw [Bool.and_eq_true, inC_iff (p := (lat h k).q.toNat) (by omega)]
  have : (!inC h c j) = true ↔ ¬ (posN h j : Int) < c.getD (lat h j).q.toNat 0 := by
    rw [← inC_iff (p := (lat h j).q.toNat) (by omega)]; simp
  rw [this]
  constructor
  · rintro ⟨a, b⟩; exact ⟨a, by omega⟩
  · rintro ⟨a, b⟩; exact ⟨a, by omega⟩
/-- A whole cut holds the send of each take. -/
theorem whole_use {h : List Ln} (hk : HOk h) {y : List Int} (hw : wholeB h y = true) {k j p1 p2 : Nat} (hl : k < h.length) (hg : (lat h k).g = 3) (hs : sendOf h k = some j) (h1 : (lat h k).q = p1) (h2 : (lat h j).q = p2) (ht : (posN h k : Int) < y.getD p1 0) : (posN h j : Int) < y.getD p2 0 := by
  obtain ⟨j', q1, q2, hs', _, hq1, hq2, _, _, hb⟩ := bad_iff hk (c := y) hl hg
  rw [hs] at hs'
  cases hs'
  have e1 : q1 = p1 := by omega
  have e2 : q2 = p2 := by omega
  subst e1; subst e2
  have h3 := (wholeB_iff h y).1 hw k hl hg
  by_cases e : (posN h j : Int) < y.getD q2 0
  · exact e
  · have := hb.2 ⟨ht, by omega⟩
    rw [h3] at this; cases this
def updL (h : List Ln) (x : List Int) (k : Nat) : List Int := (sendOf h k).elim x fun j => x.set (lat h j).q.toNat (posN h j + 1)
def updM (h : List Ln) (x : List Int) (k : Nat) : List Int := x.set (lat h k).q.toNat (posN h k)
/-- On the way to the least whole cut above c. -/
structure LeastI (h : List Ln) (c x : List Int) : Prop where
  ok : CutOk h x
  ge : InC c x
  least : ∀ y, wholeB h y = true → InC c y → InC x y
structure MostI (h : List Ln) (c x : List Int) : Prop where
  ok : CutOk h x
  le : InC x c
  most : ∀ y, wholeB h y = true → InC y c → InC y x
def sum8 (f : Nat → Nat) : Nat := f 0 + f 1 + f 2 + f 3 + f 4 + f 5 + f 6 + f 7
theorem sum8_lt {f g : Nat → Nat} {p : Nat} (hp : p < 8) (h : ∀ r, r < 8 → f r ≤ g r) (hl : f p < g p) : sum8 f < sum8 g := by
  have := h 0 (by omega); have := h 1 (by omega); have := h 2 (by omega); have := h 3 (by omega)
  have := h 4 (by omega); have := h 5 (by omega); have := h 6 (by omega); have := h 7 (by omega)
  unfold sum8
  rcases (by omega : p = 0 ∨ p = 1 ∨ p = 2 ∨ p = 3 ∨ p = 4 ∨ p = 5 ∨ p = 6 ∨ p = 7) with e | e | e | e | e | e | e | e <;> (subst e; omega)
def muL (h : List Ln) (x : List Int) : Nat := sum8 fun p => rk (plQ h p) h.length - (x.getD p 0).toNat
def muM (x : List Int) : Nat := sum8 fun p => (x.getD p 0).toNat
theorem least_step {h : List Ln} (hk : HOk h) {c x : List Int} {k : Nat} (i : LeastI h c x) (hl : k < h.length) (hg : (lat h k).g = 3) (hb : badB h x k = true) : LeastI h c (updL h x k) ∧ muL h (updL h x k) < muL h x := by
  obtain ⟨j, p1, p2, hs, hj, hq1, hq2, hp1, hp2, hbi⟩ := bad_iff hk (c := x) hl hg
  obtain ⟨ht, hn⟩ := hbi.1 hb
  have hu : updL h x k = x.set p2 (posN h j + 1) := by unfold updL; rw [hs]; show x.set (lat h j).q.toNat _ = _; rw [hq2]; rfl
  have hpl := pos_lt (h := h) hj
  rw [hq2] at hpl
  have hx2 := i.ok.bd p2 hp2
  rw [hu]
  refine ⟨⟨⟨by simp [i.ok.len], fun p hp => ?_⟩, fun p hp => ?_, fun y hw hc p hp => ?_⟩, ?_⟩
  · rw [getD_set8 i.ok.len hp2]
    by_cases e : p = p2
    · subst e; rw [if_pos rfl]; omega
    · rw [if_neg e]; exact i.ok.bd p hp
  · rw [getD_set8 i.ok.len hp2]
    have := i.ge p hp
    by_cases e : p = p2
    · subst e; rw [if_pos rfl]; omega
    · rw [if_neg e]; exact this
  · have h1 := i.least y hw hc
    rw [getD_set8 i.ok.len hp2]
    by_cases e : p = p2
    · subst e
      rw [if_pos rfl]
      have h2 := h1 p1 hp1
      have := whole_use hk hw hl hg hs hq1 hq2 (by omega)
      omega
    · rw [if_neg e]; exact h1 p hp
  · refine sum8_lt hp2 (fun r hr => ?_) ?_
    · rw [getD_set8 i.ok.len hp2]
      by_cases e : r = p2
      · subst e; rw [if_pos rfl]; omega
      · rw [if_neg e]; exact Nat.le_refl _
    · rw [getD_set8 i.ok.len hp2, if_pos rfl]; omega
theorem most_step {h : List Ln} (hk : HOk h) {c x : List Int} {k : Nat} (i : MostI h c x) (hl : k < h.length) (hg : (lat h k).g = 3) (hb : badB h x k = true) : MostI h c (updM h x k) ∧ muM (updM h x k) < muM x := by
  obtain ⟨j, p1, p2, hs, hj, hq1, hq2, hp1, hp2, hbi⟩ := bad_iff hk (c := x) hl hg
  obtain ⟨ht, hn⟩ := hbi.1 hb
  have hu : updM h x k = x.set p1 (posN h k) := by unfold updM; rw [hq1]; rfl
  have hx1 := i.ok.bd p1 hp1
  rw [hu]
  refine ⟨⟨⟨by simp [i.ok.len], fun p hp => ?_⟩, fun p hp => ?_, fun y hw hc p hp => ?_⟩, ?_⟩
  · rw [getD_set8 i.ok.len hp1]
    by_cases e : p = p1
    · subst e; rw [if_pos rfl]; omega
    · rw [if_neg e]; exact i.ok.bd p hp
  · rw [getD_set8 i.ok.len hp1]
    have := i.le p hp
    by_cases e : p = p1
    · subst e; rw [if_pos rfl]; omega
    · rw [if_neg e]; exact this
  · have h1 := i.most y hw hc
    rw [getD_set8 i.ok.len hp1]
    by_cases e : p = p1
    · subst e
      rw [if_pos rfl]
      by_cases e2 : (posN h k : Int) < y.getD p 0
      · have h3 := whole_use hk hw hl hg hs hq1 hq2 e2
        have h4 := h1 p2 hp2
        omega
      · omega
    · rw [if_neg e]; exact h1 p hp
  · refine sum8_lt hp1 (fun r hr => ?_) ?_
    · rw [getD_set8 i.ok.len hp1]
      by_cases e : r = p1
      · subst e; rw [if_pos rfl]; omega
      · rw [if_neg e]; exact Nat.le_refl _
    · rw [getD_set8 i.ok.len hp1, if_pos rfl]; omega
theorem cut_ext {x y : List Int} (hx : x.length = 8) (hy : y.length = 8) (h1 : InC x y) (h2 : InC y x) : x = y := by
  refine List.ext_getElem (by omega) fun p a b => ?_
  have e1 := h1 p (by omega)
  have e2 := h2 p (by omega)
  simp only [List.getD_eq_getElem?_getD, List.getElem?_eq_getElem a, List.getElem?_eq_getElem b, Option.getD_some] at e1 e2
  omega
/-- There is but one least whole cut. -/
theorem least_one {h : List Ln} {c x y : List Int} (hx : LeastI h c x) (hwx : wholeB h x = true) (hy : LeastI h c y) (hwy : wholeB h y = true) : x = y :=
  cut_ext hx.ok.len hy.ok.len (hx.least y hwy hy.ge) (hy.least x hwx hx.ge)
end Go

namespace Go
open Go.RowKit
theorem cntP_rk (h : List Ln) (p : Nat) (k : Nat) : cntP h p k = rk (plQ h p) k := by
  induction k with
  | zero => rfl
  | succ k ih =>
    rw [cntP, ih, rk_succ]
    unfold plQ
    by_cases e : (lat h k).q = p
    · rw [if_pos e, if_pos (by simpa using e)]; rfl
    · rw [if_neg e, if_neg (by simpa using e)]; rfl
theorem clk_own {h : List Ln} (hk : HOk h) {k p : Nat} (hl : k < h.length) (hp : (lat h k).q = p) : (clk h k).getD p 0 = posN h k + 1 := by
  rw [(clk_cnt hk (k + 1) k (by omega) hl).2 p hp, cntP_rk, rk_succ, if_pos (by unfold plQ; exact decide_eq_true hp)]
  unfold posN
  rw [hp]; rfl
/-- The clock holds exactly the past. -/
theorem clk_past {h : List Ln} (hk : HOk h) {i k p : Nat} (hi : i < h.length) (hl : k < h.length) (hp : (lat h k).q = p) : (posN h k : Int) < (clk h i).getD p 0 ↔ Past h k i := by
  have ho := clk_own hk hl hp
  constructor
  · intro h1
    refine cnt_reach hk hl hp (i + 1) i (by omega) hi ?_
    have := (clk_cnt hk (k + 1) k (by omega) hl).2 p hp
    omega
  · intro r
    have := reach_le hk r hi p
    omega
theorem past_front {h : List Ln} {j k i : Nat} (hjk : j < k) (he : edgeB h j k = true) (r : Past h k i) : Past h j i := by
  induction r with
  | here => exact .step .here hjk he
  | step _ h1 h2 ih => exact .step ih h1 h2
theorem clk_cut {h : List Ln} (hk : HOk h) {i : Nat} (hi : i < h.length) : CutOk h (clk h i) := by
  have hc := clk_ok hk i hi
  refine ⟨hc.len, fun p _ => ⟨(hc.at_ (by omega) p).1, ?_⟩⟩
  have h1 := (clk_cnt hk (i + 1) i (by omega) hi).1 p
  rw [cntP_rk] at h1
  have h2 := rk_mono (plQ h p) (show i + 1 ≤ h.length by omega)
  omega
theorem clk_whole {h : List Ln} (hk : HOk h) {i : Nat} (hi : i < h.length) : wholeB h (clk h i) = true := by
  refine (wholeB_iff _ _).2 fun k hl hg => ?_
  obtain ⟨j, p1, p2, hs, hj, hq1, hq2, _, _, hb⟩ := bad_iff hk (c := clk h i) hl hg
  cases e : badB h (clk h i) k with
  | false => rfl
  | true =>
    obtain ⟨h1, h2⟩ := hb.1 e
    obtain ⟨j', hs', hjk, hjg, hju⟩ := sendOf_some hk hl hg
    rw [hs] at hs'
    cases hs'
    have r := (clk_past hk hi hl hq1).1 h1
    have r2 := past_front hjk (by unfold edgeB; rw [hjg, hg, hju]; simp) r
    have := (clk_past hk hi hj hq2).2 r2
    omega
/-- The event alone: those of its place up to it, of the first k. -/
def aloneTo (h : List Ln) (q k : Nat) : List Int := zeros8.set q (rk (plQ h q) k)
theorem zeros8_len : zeros8.length = 8 := rfl
theorem alone_at (h : List Ln) {q : Nat} (hq : q < 8) (k p : Nat) : (aloneTo h q k).getD p 0 = if p = q then (rk (plQ h q) k : Int) else 0 := by
  unfold aloneTo
  rw [getD_set8 zeros8_len hq]
  by_cases e : p = q
  · rw [if_pos e, if_pos e]
  · rw [if_neg e, if_neg e, zeros8_getD]
theorem alone_cut (h : List Ln) {q k : Nat} (hq : q < 8) (hk : k ≤ h.length) : CutOk h (aloneTo h q k) := by
  refine ⟨by simp [aloneTo, zeros8], fun p hp => ?_⟩
  rw [alone_at h hq]
  by_cases e : p = q
  · subst e; rw [if_pos rfl]; have := rk_mono (plQ h p) hk; omega
  · rw [if_neg e]; omega
/-- The clock is the least whole cut that holds its event. -/
theorem clk_least {h : List Ln} (hk : HOk h) {i q : Nat} (hi : i < h.length) (hq : (lat h i).q = q) (hq8 : q < 8) : LeastI h (aloneTo h q (i + 1)) (clk h i) := by
  refine ⟨clk_cut hk hi, fun p hp => ?_, fun y hw hc p hp => ?_⟩
  · rw [alone_at h hq8]
    by_cases e : p = q
    · subst e
      rw [if_pos rfl, (clk_cnt hk (i + 1) i (by omega) hi).2 p hq, cntP_rk]
      exact Int.le_refl _
    · rw [if_neg e]; exact ((clk_cut hk hi).bd p hp).1
  · have hin : ∀ (x z : Nat), z < h.length → Past h x z → (posN h z : Int) < y.getD (lat h z).q.toNat 0 → (posN h x : Int) < y.getD (lat h x).q.toNat 0 := fun x z hz r => by
      induction r with
      | here => exact id
      | @step z' z'' _ h1 h2 ih =>
        intro h3
        refine ih (by omega) ?_
        unfold edgeB at h2
        simp only [Bool.or_eq_true, Bool.and_eq_true, decide_eq_true_eq] at h2
        rcases h2 with h2 | ⟨g1, g2, g3⟩
        · have h4 : posN h z' < posN h z'' := by
            unfold posN
            rw [h2]
            exact rk_lt h1 (by unfold plQ; simpa using h2)
          rw [h2]; omega
        · have hs : sendOf h z'' = some z' := by
            unfold sendOf
            rw [← g3]
            exact kindIx_eq (fun a b hab hb => hk.sends a b hab hb) (by omega) g1
          have e1 := hk.ev z' (by omega)
          have e2 := hk.ev z'' hz
          exact whole_use hk hw hz g2 hs (show (lat h z'').q = ((lat h z'').q.toNat : Nat) by omega) (show (lat h z').q = ((lat h z').q.toNat : Nat) by omega) h3
    have hiy : (posN h i : Int) < y.getD (lat h i).q.toNat 0 := by
      have h1 := hc q hq8
      rw [alone_at h hq8, if_pos rfl, rk_succ, if_pos (by unfold plQ; exact decide_eq_true hq)] at h1
      rw [hq]
      show (posN h i : Int) < y.getD q 0
      unfold posN
      rw [hq]; omega
    have hb := ((clk_cut hk hi).bd p hp).1
    by_cases e : (clk h i).getD p 0 = 0
    · have h1 := hc p hp
      rw [alone_at h hq8] at h1
      rw [e]
      split at h1 <;> omega
    · have h1 := (clk_cnt hk (i + 1) i (by omega) hi).1 p
      rw [cntP_rk] at h1
      obtain ⟨x, hx, hpx, hrx⟩ := rk_inv (P := plQ h p) (n := i + 1) (x := ((clk h i).getD p 0).toNat - 1) (by omega)
      have hqx : (lat h x).q = p := of_decide_eq_true hpx
      have hpos : posN h x = ((clk h i).getD p 0).toNat - 1 := by unfold posN; rw [hqx]; exact hrx
      have r := (clk_past hk hi (show x < h.length by omega) hqx).1 (by rw [hpos]; omega)
      have h3 := hin x i hi r hiy
      rw [hqx] at h3
      have h4 : (posN h x : Int) < y.getD p 0 := h3
      rw [hpos] at h4
      omega
end Go
/- CutWay: what is on the way behind the first n events (plain). -/
namespace Go
open Go.RowKit
/-- The cut of the first n events. -/
def IsPre (h : List Ln) (n : Nat) (c : List Int) : Prop := ∀ p : Nat, p < 8 → c.getD p 0 = rk (plQ h p) n
theorem inC_pre {h : List Ln} {n : Nat} {c : List Int} (hk : HOk h) (hc : IsPre h n c) {j : Nat} (hj : j < h.length) : inC h c j = decide (j < n) := by
  have he := hk.ev j hj
  obtain ⟨p, hp⟩ : ∃ p : Nat, (lat h j).q = p := ⟨(lat h j).q.toNat, by omega⟩
  have hp8 : p < 8 := by omega
  have h1 : plQ h p j = true := by unfold plQ; exact decide_eq_true hp
  rw [Bool.eq_iff_iff, inC_iff hp, hc p hp8]
  unfold posN
  rw [hp]
  constructor
  · intro h2
    refine decide_eq_true ?_
    by_cases hlt : j < n
    · exact hlt
    · have := rk_mono (plQ h p) (show n ≤ j by omega); omega
  · intro h2
    have := rk_lt (of_decide_eq_true h2) h1
    omega
theorem whole_pre' {h : List Ln} {n : Nat} {c : List Int} (hk : HOk h) (hc : IsPre h n c) : wholeB h c = true := by
  refine (wholeB_iff h c).2 fun k hl hg => ?_
  obtain ⟨j, hs, hjk, _, _⟩ := sendOf_some hk hl hg
  unfold badB
  rw [hs, inC_pre hk hc hl]
  show (decide (k < n) && !(inC h c j)) = false
  rw [inC_pre hk hc (by omega)]
  by_cases h1 : k < n
  · simp [h1, show j < n by omega]
  · simp [h1]
def inWay (h : List Ln) (n j : Nat) : Bool := decide ((lat h j).g = 2) && !saidB h 3 n (lat h j).u
/-- The messages on the way behind the first n events. -/
def wayL (h : List Ln) (n : Nat) : List Int := ((List.range n).filter (inWay h n)).map (fun j => (lat h j).u)
theorem wayL_zero (h : List Ln) : wayL h 0 = [] := rfl
theorem inWay_same {h : List Ln} {k : Nat} (hg : (lat h k).g ≠ 3) : inWay h (k + 1) = inWay h k := by
  funext j
  unfold inWay
  rw [saidB_succ, decide_eq_false hg, Bool.false_and, Bool.or_false]
theorem wayL_other {h : List Ln} {k : Nat} (hg : (lat h k).g ≠ 3) (h2 : (lat h k).g ≠ 2) : wayL h (k + 1) = wayL h k := by
  unfold wayL
  have : inWay h k k = false := by unfold inWay; rw [decide_eq_false h2, Bool.false_and]
  rw [inWay_same hg, List.range_succ, List.filter_append, List.filter_cons, List.filter_nil, this]
  simp only [Bool.false_eq_true, if_false, List.append_nil]
theorem wayL_send {h : List Ln} (hk : HOk h) {k : Nat} (hl : k < h.length) (hg : (lat h k).g = 2) : wayL h (k + 1) = wayL h k ++ [(lat h k).u] := by
  have h3 : (lat h k).g ≠ 3 := by omega
  unfold wayL
  have : inWay h k k = true := by
    unfold inWay
    have hs : saidB h 3 k (lat h k).u = false := by
      cases hb : saidB h 3 k (lat h k).u with
      | false => rfl
      | true =>
        obtain ⟨i, hi, hi3, hiu⟩ := (saidB_iff h 3 k _).1 hb
        obtain ⟨j, hj, hj2, hju⟩ := hk.sent i (by omega) hi3
        exact absurd (hju.trans hiu) (hk.sends j k (by omega) hl hj2 hg)
    rw [decide_eq_true hg, hs]; rfl
  rw [inWay_same h3, List.range_succ, List.filter_append, List.filter_cons, List.filter_nil, List.map_append, this]
  rfl
theorem wayL_take {h : List Ln} {k : Nat} (hg : (lat h k).g = 3) : wayL h (k + 1) = (wayL h k).filter (fun x => !(x == (lat h k).u)) := by
  unfold wayL
  have h1 : inWay h (k + 1) k = false := by unfold inWay; rw [decide_eq_false (by omega), Bool.false_and]
  rw [List.range_succ, List.filter_append, List.filter_cons, List.filter_nil, h1, List.filter_map, List.filter_filter]
  simp only [Bool.false_eq_true, if_false, List.append_nil]
  congr 1
  refine List.filter_congr fun j _ => ?_
  unfold inWay
  rw [saidB_succ, decide_eq_true hg, Bool.true_and]
  show _ = (!((lat h j).u == (lat h k).u) && _)
  obtain ⟨a, ha⟩ : ∃ a, (lat h j).u = a := ⟨_, rfl⟩
  obtain ⟨b, hb⟩ : ∃ b, (lat h k).u = b := ⟨_, rfl⟩
  rw [ha, hb]
  cases saidB h 3 k a <;> cases decide ((lat h j).g = 2) <;> by_cases e : a = b
  all_goals first | (subst e; simp) | (have e' : ¬ b = a := fun h => e h.symm; simp [e, e'])
theorem wayL_mem {h : List Ln} {n : Nat} {x : Int} : x ∈ wayL h n ↔ ∃ j, j < n ∧ (lat h j).g = 2 ∧ (lat h j).u = x ∧ saidB h 3 n x = false := by
  unfold wayL
  rw [List.mem_map]
  constructor
  · rintro ⟨j, hj, rfl⟩
    obtain ⟨h1, h2⟩ := List.mem_filter.1 hj
    unfold inWay at h2
    rw [Bool.and_eq_true] at h2
    exact ⟨j, List.mem_range.1 h1, of_decide_eq_true h2.1, rfl, by simpa only [Bool.not_eq_true'] using h2.2⟩
  · rintro ⟨j, h1, h2, rfl, h3⟩
    exact ⟨j, List.mem_filter.2 ⟨List.mem_range.2 h1, by unfold inWay; rw [decide_eq_true h2, h3]; rfl⟩, rfl⟩
theorem wayL_there {h : List Ln} (hk : HOk h) {k : Nat} (hl : k < h.length) (hg : (lat h k).g = 3) : (lat h k).u ∈ wayL h k := by
  obtain ⟨j, hj, hj2, hju⟩ := hk.sent k hl hg
  refine wayL_mem.2 ⟨j, hj, hj2, hju, ?_⟩
  cases hb : saidB h 3 k (lat h k).u with
  | false => rfl
  | true =>
    obtain ⟨i, hi, hi3, hiu⟩ := (saidB_iff h 3 k _).1 hb
    exact absurd hiu (hk.takes i k hi hl hi3 hg)
theorem wayL_nodup {h : List Ln} (hk : HOk h) {n : Nat} (hn : n ≤ h.length) : (wayL h n).Nodup := by
  unfold wayL
  show List.Pairwise (· ≠ ·) _
  rw [List.pairwise_map]
  have h1 : ((List.range n).filter (inWay h n)).Pairwise (· < ·) := List.Pairwise.filter _ List.pairwise_lt_range
  refine List.Pairwise.imp_of_mem ?_ h1
  intro i j hi hj hlt
  obtain ⟨_, hi2⟩ := List.mem_filter.1 hi
  obtain ⟨hj1, hj2⟩ := List.mem_filter.1 hj
  unfold inWay at hi2 hj2
  rw [Bool.and_eq_true] at hi2 hj2
  exact hk.sends i j hlt (by have := List.mem_range.1 hj1; omega) (of_decide_eq_true hi2.1) (of_decide_eq_true hj2.1)
theorem wayL_len (h : List Ln) (n : Nat) : (wayL h n).length ≤ n := by
  unfold wayL
  rw [List.length_map]
  exact Nat.le_trans (List.length_filter_le _ _) (by simp)
theorem wayL_wf {h : List Ln} (hk : HOk h) {n : Nat} (hn : n ≤ h.length) : ∀ x ∈ wayL h n, (Lit.int .i64 x).wf = true := fun x hx => by
  obtain ⟨j, hj, _, rfl, _⟩ := wayL_mem.1 hx
  have := hk.ev j (by omega)
  exact wf_msg (by omega) (by omega)
/-- What cut.Way collects: the sends of the cut whose take is not in the cut. -/
def goes (h : List Ln) (c : List Int) (x : Int) : Prop := ∃ j, j < h.length ∧ (lat h j).g = 2 ∧ (lat h j).u = x ∧ inC h c j = true ∧ ∀ i, i < h.length → (lat h i).g = 3 → (lat h i).u = x → inC h c i = false
theorem goes_pre {h : List Ln} {n : Nat} {c : List Int} (hk : HOk h) (hc : IsPre h n c) (hn : n ≤ h.length) {x : Int} : goes h c x ↔ x ∈ wayL h n := by
  rw [wayL_mem]
  constructor
  · rintro ⟨j, h1, h2, h3, h4, h5⟩
    rw [inC_pre hk hc h1] at h4
    refine ⟨j, of_decide_eq_true h4, h2, h3, ?_⟩
    cases hb : saidB h 3 n x with
    | false => rfl
    | true =>
      obtain ⟨i, hi, hi3, hiu⟩ := (saidB_iff h 3 n x).1 hb
      have h6 := h5 i (by omega) hi3 hiu
      rw [inC_pre hk hc (by omega)] at h6
      exact absurd hi (of_decide_eq_false h6)
  · rintro ⟨j, h1, h2, h3, h4⟩
    refine ⟨j, by omega, h2, h3, by rw [inC_pre hk hc (by omega)]; exact decide_eq_true h1, fun i hi hi3 hiu => ?_⟩
    rw [inC_pre hk hc hi]
    refine decide_eq_false fun hin => ?_
    have : saidB h 3 n x = true := (saidB_iff h 3 n x).2 ⟨i, hin, hi3, hiu⟩
    rw [this] at h4
    cases h4
end Go
