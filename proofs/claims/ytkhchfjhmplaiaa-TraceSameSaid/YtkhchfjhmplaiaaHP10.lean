import Derived.Test.YtkhchfjhmplaiaaHP9
namespace Go
open Go.RowKit
/-- Two neighbours change places. -/
def swapL (h : List Ln) (i : Nat) : List Ln := (h.set i (lat h (i + 1))).set (i + 1) (lat h i)
def sw (i k : Nat) : Nat := if k = i then i + 1 else if k = i + 1 then i else k
theorem swapL_len (h : List Ln) (i : Nat) : (swapL h i).length = h.length := by simp [swapL]
theorem lat_swap {h : List Ln} {i : Nat} (hi : i + 1 < h.length) (k : Nat) : lat (swapL h i) k = lat h (sw i k) := by
  unfold swapL sw
  rw [lat_set _ _ _ _ (by simpa using hi)]
  by_cases e : i + 1 = k
  · rw [if_pos e, if_neg (by omega), if_pos (by omega)]
  · rw [if_neg e, lat_set _ _ _ _ (by omega)]
    by_cases e2 : i = k
    · rw [if_pos e2, if_pos (by omega)]
    · rw [if_neg e2, if_neg (by omega), if_neg (by omega)]
theorem sw_sw (i k : Nat) : sw i (sw i k) = k := by
  unfold sw
  by_cases e : k = i
  · rw [if_pos e, if_neg (by omega), if_pos rfl, e]
  · rw [if_neg e]
    by_cases e2 : k = i + 1
    · rw [if_pos e2, if_pos rfl, e2]
    · rw [if_neg e2, if_neg e, if_neg e2]
theorem sw_lt {i k n : Nat} (hi : i + 1 < n) (hk : k < n) : sw i k < n := by unfold sw; split <;> (try split) <;> omega
/-- The two are not bound to each other. -/
structure Free (h : List Ln) (i : Nat) : Prop where
  at_ : i + 1 < h.length
  place : (lat h i).q ≠ (lat h (i + 1)).q
  word : ¬ ((lat h i).g = 2 ∧ (lat h (i + 1)).g = 3 ∧ (lat h i).u = (lat h (i + 1)).u)
theorem swap_ok {h : List Ln} (hk : HOk h) {i : Nat} (hf : Free h i) : HOk (swapL h i) := by
  have hi := hf.at_
  have hl : ∀ k, lat (swapL h i) k = lat h (sw i k) := lat_swap hi
  have hlen := swapL_len h i
  have uniq : ∀ g : Int, (∀ x y, x < y → y < h.length → (lat h x).g = g → (lat h y).g = g → (lat h x).u ≠ (lat h y).u) → ∀ x y, x < y → y < (swapL h i).length → (lat (swapL h i) x).g = g → (lat (swapL h i) y).g = g → (lat (swapL h i) x).u ≠ (lat (swapL h i) y).u := fun g hu x y hxy hy h1 h2 => by
    rw [hl] at h1 h2 ⊢
    rw [hl]
    rw [hlen] at hy
    have hx' := sw_lt hi (show x < h.length by omega)
    have hy' := sw_lt hi hy
    have hne : sw i x ≠ sw i y := fun e => by have := congrArg (sw i) e; rw [sw_sw, sw_sw] at this; omega
    by_cases e : sw i x < sw i y
    · exact hu _ _ e hy' h1 h2
    · exact fun e2 => hu _ _ (by omega) hx' h2 h1 e2.symm
  refine ⟨by rw [hlen]; exact hk.len, fun k hlt => ?_, uniq 2 hk.sends, uniq 3 hk.takes, fun k hlt hg => ?_⟩
  · rw [hl]; rw [hlen] at hlt; exact hk.ev _ (sw_lt hi hlt)
  · rw [hl] at hg
    rw [hlen] at hlt
    obtain ⟨j, hj, h1, h2⟩ := hk.sent _ (sw_lt hi hlt) hg
    refine ⟨sw i j, ?_, by rw [hl, sw_sw]; exact h1, by rw [hl, hl, sw_sw]; exact h2⟩
    by_cases e : j = i ∧ sw i k = i + 1
    · obtain ⟨e1, e2⟩ := e
      rw [e2] at hg h2
      rw [e1] at h1 h2
      exact absurd ⟨h1, hg, h2⟩ hf.word
    · have hd : ∀ x, (x = i ∧ sw i x = i + 1) ∨ (x = i + 1 ∧ sw i x = i) ∨ (x ≠ i ∧ x ≠ i + 1 ∧ sw i x = x) := fun x => by
        unfold sw
        by_cases c1 : x = i
        · rw [if_pos c1]; exact .inl ⟨c1, rfl⟩
        · by_cases c2 : x = i + 1
          · rw [if_neg c1, if_pos c2]; exact .inr (.inl ⟨c2, rfl⟩)
          · rw [if_neg c1, if_neg c2]; exact .inr (.inr ⟨c1, c2, rfl⟩)
      have d1 := hd j
      have d2 := hd k
      omega
theorem lastIx_swap {h : List Ln} {i : Nat} (hf : Free h i) (p : Int) : ∀ k, (k ≤ i → lastIx (swapL h i) p k = lastIx h p k) ∧ (i + 2 ≤ k → lastIx (swapL h i) p k = (lastIx h p k).map (sw i)) := by
  have hl : ∀ k, lat (swapL h i) k = lat h (sw i k) := lat_swap hf.at_
  have hlow : ∀ k, k ≤ i → lastIx (swapL h i) p k = lastIx h p k := fun k => by
    induction k with
    | zero => intro _; rfl
    | succ k ih =>
      intro hk
      rw [lastIx, lastIx, hl, show sw i k = k by unfold sw; rw [if_neg (by omega), if_neg (by omega)], ih (by omega)]
  intro k
  refine ⟨hlow k, ?_⟩
  induction k with
  | zero => intro h; omega
  | succ k ih =>
    intro hk
    by_cases e : k = i + 1
    · subst e
      have hp := hf.place
      rw [lastIx, lastIx, hlow i (Nat.le_refl _), lastIx, lastIx, hl, hl, show sw i (i + 1) = i by unfold sw; rw [if_neg (by omega), if_pos rfl], show sw i i = i + 1 by unfold sw; rw [if_pos rfl]]
      by_cases e1 : (lat h i).q = p
      · have e2 : ¬ (lat h (i + 1)).q = p := fun e2 => hp (e1.trans e2.symm)
        rw [if_pos e1, if_neg e2, if_pos e1]; simp [sw]
      · rw [if_neg e1, if_neg e1]
        by_cases e2 : (lat h (i + 1)).q = p
        · rw [if_pos e2, if_pos e2]; simp [sw]
        · rw [if_neg e2, if_neg e2]
          cases hx : lastIx h p i with
          | none => rfl
          | some j =>
            have := (lastIx_lt hx).1
            simp only [Option.map_some, sw]
            rw [if_neg (by omega), if_neg (by omega)]
    · rw [lastIx, lastIx, hl, show sw i k = k by unfold sw; rw [if_neg (by omega), if_neg (by omega)], ih (by omega)]
      split
      · simp only [Option.map_some, sw]; rw [if_neg (by omega), if_neg (by omega)]
      · rfl
theorem sendIx_swap {h : List Ln} (hk : HOk h) {i : Nat} (hf : Free h i) (u : Int) : ∀ k, (k ≤ i → sendIx (swapL h i) u k = sendIx h u k) ∧ (i + 2 ≤ k → sendIx (swapL h i) u k = (sendIx h u k).map (sw i)) := by
  have hl : ∀ k, lat (swapL h i) k = lat h (sw i k) := lat_swap hf.at_
  have hlow : ∀ k, k ≤ i → sendIx (swapL h i) u k = sendIx h u k := fun k => by
    induction k with
    | zero => intro _; rfl
    | succ k ih =>
      intro hk
      rw [sendIx, sendIx, hl, show sw i k = k by unfold sw; rw [if_neg (by omega), if_neg (by omega)], ih (by omega)]
  intro k
  refine ⟨hlow k, ?_⟩
  induction k with
  | zero => intro h; omega
  | succ k ih =>
    intro hk2
    by_cases e : k = i + 1
    · subst e
      rw [sendIx, sendIx, hlow i (Nat.le_refl _), sendIx, sendIx, hl, hl, show sw i (i + 1) = i by unfold sw; rw [if_neg (by omega), if_pos rfl], show sw i i = i + 1 by unfold sw; rw [if_pos rfl]]
      by_cases e1 : (lat h i).g = 2 ∧ (lat h i).u = u
      · have e2 : ¬ ((lat h (i + 1)).g = 2 ∧ (lat h (i + 1)).u = u) := fun e2 => hk.sends i (i + 1) (by omega) hf.at_ e1.1 e2.1 (e1.2.trans e2.2.symm)
        rw [if_pos e1, if_neg e2, if_pos e1]; simp [sw]
      · rw [if_neg e1, if_neg e1]
        by_cases e2 : (lat h (i + 1)).g = 2 ∧ (lat h (i + 1)).u = u
        · rw [if_pos e2, if_pos e2]; simp [sw]
        · rw [if_neg e2, if_neg e2]
          cases hx : sendIx h u i with
          | none => rfl
          | some j =>
            have := (sendIx_lt hx).1
            simp only [Option.map_some, sw]
            rw [if_neg (by omega), if_neg (by omega)]
    · rw [sendIx, sendIx, hl, show sw i k = k by unfold sw; rw [if_neg (by omega), if_neg (by omega)], ih (by omega)]
      split
      · simp only [Option.map_some, sw]; rw [if_neg (by omega), if_neg (by omega)]
      · rfl
/-- The clocks stay. -/
theorem swap_clk {h : List Ln} (hk : HOk h) {i : Nat} (hf : Free h i) : ∀ (n k : Nat), k < n → k < h.length → clk (swapL h i) (sw i k) = clk h k := by
  have hl : ∀ k, lat (swapL h i) k = lat h (sw i k) := lat_swap hf.at_
  have hi := hf.at_
  intro n
  induction n with
  | zero => intro k h; omega
  | succ n ih =>
    intro k hn hlt
    have hsame : ∀ j, j < i → sw i j = j := fun j hj => by unfold sw; rw [if_neg (by omega), if_neg (by omega)]
    have hlastlow : ∀ (p : Int) (z : List Int) (m : Nat), m ≤ i → m ≤ n → (lastIx h p m).elim z (clk (swapL h i)) = (lastIx h p m).elim z (clk h) := fun p z m hm hmn => by
      cases hx : lastIx h p m with
      | none => rfl
      | some j =>
        have hj := (lastIx_lt hx).1
        have := ih j (by omega) (by omega)
        rw [hsame j (by omega)] at this
        exact this
    have hsendlow : ∀ (u : Int) (z : List Int) (m : Nat), m ≤ i → m ≤ n → (sendIx h u m).elim z (clk (swapL h i)) = (sendIx h u m).elim z (clk h) := fun u z m hm hmn => by
      cases hx : sendIx h u m with
      | none => rfl
      | some j =>
        have hj := (sendIx_lt hx).1
        have := ih j (by omega) (by omega)
        rw [hsame j (by omega)] at this
        exact this
    rw [clk_eq (swapL h i), clk_eq h k, hl, sw_sw]
    have h1 : (lastIx (swapL h i) (lat h k).q (sw i k)).elim zeros8 (clk (swapL h i)) = (lastIx h (lat h k).q k).elim zeros8 (clk h) := by
      by_cases c1 : k < i
      · rw [hsame k c1, (lastIx_swap hf _ k).1 (by omega), hlastlow _ _ k (by omega) (by omega)]
      · by_cases c2 : k = i
        · subst c2
          rw [show sw k k = k + 1 by unfold sw; rw [if_pos rfl], lastIx, hl, show sw k k = k + 1 by unfold sw; rw [if_pos rfl], if_neg (fun e => hf.place e.symm), (lastIx_swap hf _ k).1 (by omega), hlastlow _ _ k (by omega) (by omega)]
        · by_cases c3 : k = i + 1
          · subst c3
            rw [show sw i (i + 1) = i by unfold sw; rw [if_neg (by omega), if_pos rfl], lastIx, if_neg hf.place, (lastIx_swap hf _ i).1 (by omega), hlastlow _ _ i (by omega) (by omega)]
          · rw [show sw i k = k by unfold sw; rw [if_neg c2, if_neg c3], (lastIx_swap hf _ k).2 (by omega)]
            cases hx : lastIx h (lat h k).q k with
            | none => rfl
            | some j => have hj := (lastIx_lt hx).1; exact ih j (by omega) (by omega)
    have h2 : (lat h k).g = 3 → (sendIx (swapL h i) (lat h k).u (sw i k)).elim [] (clk (swapL h i)) = (sendIx h (lat h k).u k).elim [] (clk h) := fun hg => by
      by_cases c1 : k < i
      · rw [hsame k c1, (sendIx_swap hk hf _ k).1 (by omega), hsendlow _ _ k (by omega) (by omega)]
      · by_cases c2 : k = i
        · subst c2
          obtain ⟨j, hj⟩ := sendIx_take hk hlt hg
          have hjl := sendIx_lt hj
          have hno : ¬ ((lat h (k + 1)).g = 2 ∧ (lat h (k + 1)).u = (lat h k).u) := fun e => hk.sends j (k + 1) (by omega) hi hjl.2.1 e.1 (hjl.2.2.trans e.2.symm)
          rw [show sw k k = k + 1 by unfold sw; rw [if_pos rfl], sendIx, hl, show sw k k = k + 1 by unfold sw; rw [if_pos rfl], if_neg hno, (sendIx_swap hk hf _ k).1 (by omega), hsendlow _ _ k (by omega) (by omega)]
        · by_cases c3 : k = i + 1
          · subst c3
            have hno : ¬ ((lat h i).g = 2 ∧ (lat h i).u = (lat h (i + 1)).u) := fun e => hf.word ⟨e.1, hg, e.2⟩
            rw [show sw i (i + 1) = i by unfold sw; rw [if_neg (by omega), if_pos rfl], sendIx, if_neg hno, (sendIx_swap hk hf _ i).1 (by omega), hsendlow _ _ i (by omega) (by omega)]
          · rw [show sw i k = k by unfold sw; rw [if_neg c2, if_neg c3], (sendIx_swap hk hf _ k).2 (by omega)]
            cases hx : sendIx h (lat h k).u k with
            | none => rfl
            | some j => have hj := (sendIx_lt hx).1; exact ih j (by omega) (by omega)
    rw [h1]
    by_cases hg : (lat h k).g = 3
    · rw [if_pos hg, if_pos hg, h2 hg]
    · rw [if_neg hg, if_neg hg]
theorem swap_clk' {h : List Ln} (hk : HOk h) {i : Nat} (hf : Free h i) {k : Nat} (hl : k < h.length) : clk (swapL h i) k = clk h (sw i k) := by
  have := swap_clk hk hf (sw i k + 1) (sw i k) (by omega) (sw_lt hf.at_ hl)
  rw [sw_sw] at this
  exact this
/-- Of two neighbours, none ahead of the other: they are not bound. -/
theorem free_of {h : List Ln} (hk : HOk h) {i : Nat} (hi : i + 1 < h.length) (hn : lessL (clk h i) (clk h (i + 1)) = false) : Free h i := by
  refine ⟨hi, fun e => ?_, fun e => ?_⟩
  · have := same_less hk (show i < i + 1 by omega) hi e
    rw [hn] at this; cases this
  · have h1 : edgeB h i (i + 1) = true := by unfold edgeB; rw [e.1, e.2.1, e.2.2]; simp
    have h2 := reach_le hk (.step .here (show i < i + 1 by omega) h1) (by omega)
    have := le_less hk (show i < i + 1 by omega) hi h2
    rw [hn] at this; cases this
end Go
