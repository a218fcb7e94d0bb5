import Derived.Test.YtkhchfjhmplaiaaHP5
namespace Go
open Go.RowKit
/-- A step from one event to a later one: along a place, or with a message. -/
def edgeB (h : List Ln) (x y : Nat) : Bool := decide ((lat h x).q = (lat h y).q) || (decide ((lat h x).g = 2) && (decide ((lat h y).g = 3) && decide ((lat h x).u = (lat h y).u)))
inductive Past (h : List Ln) (i : Nat) : Nat → Prop
  | here : Past h i i
  | step {x y : Nat} : Past h i x → x < y → edgeB h x y = true → Past h i y
theorem Past.le {h : List Ln} {i k : Nat} (r : Past h i k) : i ≤ k := by
  induction r with
  | here => exact Nat.le_refl _
  | step _ h1 _ ih => omega
theorem sendIx_eq {h : List Ln} (hk : HOk h) {x y : Nat} (hxy : x < y) (hl : y < h.length) (hg : (lat h x).g = 2) {u : Int} (hu : (lat h x).u = u) : sendIx h u y = some x := by
  cases hs : sendIx h u y with
  | none => exact absurd ⟨hg, hu⟩ (sendIx_none hs x hxy)
  | some j =>
    obtain ⟨h1, h2, h3⟩ := sendIx_lt hs
    rcases Nat.lt_trichotomy j x with e | e | e
    · exact absurd (h3.trans hu.symm) (hk.sends j x e (by omega) h2 hg)
    · rw [e]
    · exact absurd (hu.trans h3.symm) (hk.sends x j e (by omega) hg h2)
theorem base_le {h : List Ln} (hk : HOk h) {k : Nat} (hl : k < h.length) : LeC (base h k) (clk h k) := fun r => by
  rw [clk_at hk hl r]; split <;> omega
theorem edge_le {h : List Ln} (hk : HOk h) {x y : Nat} (hxy : x < y) (hl : y < h.length) (he : edgeB h x y = true) : LeC (clk h x) (clk h y) := by
  unfold edgeB at he
  simp only [Bool.or_eq_true, Bool.and_eq_true, decide_eq_true_eq] at he
  rcases he with he | ⟨h1, h2, h3⟩
  · exact same_le hk (y + 1) y (by omega) hl x (by omega) he
  · refine LeC.trans (fun r => ?_) (base_le hk hl)
    unfold base
    rw [if_pos h2, joinL_at, sendIx_eq hk hxy hl h1 h3]
    exact Int.le_max_right _ _
theorem reach_le {h : List Ln} (hk : HOk h) {i k : Nat} (r : Past h i k) (hl : k < h.length) : LeC (clk h i) (clk h k) := by
  induction r with
  | here => exact LeC.refl _
  | step _ h1 h2 ih => exact (ih (by omega)).trans (edge_le hk h1 hl h2)
/-- Who has counted an event of a place has it in the past. -/
theorem cnt_reach {h : List Ln} (hk : HOk h) {i p : Nat} (hi : i < h.length) (hp : (lat h i).q = p) : ∀ (n k : Nat), k < n → k < h.length → cntP h p (i + 1) ≤ (clk h k).getD p 0 → Past h i k := by
  intro n
  induction n with
  | zero => intro k h; omega
  | succ n ih =>
    intro k hn hl hc
    have hpos : 1 ≤ cntP h p (i + 1) := by rw [cntP, if_pos hp]; have := cntP_nn h p i; omega
    by_cases hq : (lat h k).q = p
    · rw [(clk_cnt hk (k + 1) k (by omega) hl).2 p hq] at hc
      by_cases e : i = k
      · subst e; exact .here
      · by_cases e2 : i < k
        · exact .step .here e2 (by simp only [edgeB, hp, hq, decide_true, Bool.true_or])
        · have := cntP_mono h p (show k + 1 ≤ i by omega)
          rw [cntP, if_pos hp] at hc
          omega
    · rw [clk_at hk hl, if_neg hq] at hc
      have hlast : cntP h p (i + 1) ≤ ((lastIx h (lat h k).q k).elim zeros8 (clk h)).getD p 0 → Past h i k := fun hc => by
        cases hj : lastIx h (lat h k).q k with
        | none => rw [hj, show (none : Option Nat).elim zeros8 (clk h) = zeros8 from rfl, zeros8_getD] at hc; omega
        | some j =>
          rw [hj] at hc
          obtain ⟨h1, h2, _⟩ := lastIx_lt hj
          exact .step (ih j (by omega) (by omega) hc) h1 (by simp only [edgeB, h2, decide_true, Bool.true_or])
      unfold base at hc
      split at hc
      · rename_i hg
        rw [joinL_at] at hc
        obtain ⟨j, hj⟩ := sendIx_take hk hl hg
        obtain ⟨h1, h2, h3⟩ := sendIx_lt hj
        rw [hj] at hc
        rcases Int.le_total (((lastIx h (lat h k).q k).elim zeros8 (clk h)).getD p 0) (((some j).elim [] (clk h)).getD p 0) with e | e
        · rw [Int.max_eq_right e] at hc
          exact .step (ih j (by omega) (by omega) hc) h1 (by simp only [edgeB, h2, h3, hg, decide_true, Bool.and_self, Bool.or_true])
        · rw [Int.max_eq_left e] at hc
          exact hlast hc
      · exact hlast hc
theorem le_reach {h : List Ln} (hk : HOk h) {i k : Nat} (hi : i < h.length) (hl : k < h.length) (hc : LeC (clk h i) (clk h k)) : Past h i k := by
  have he := hk.ev i hi
  obtain ⟨p, hp⟩ : ∃ p : Nat, (lat h i).q = p := ⟨(lat h i).q.toNat, by omega⟩
  have h1 := (clk_cnt hk (i + 1) i (by omega) hi).2 p hp
  exact cnt_reach hk hi hp (k + 1) k (by omega) hl (by rw [← h1]; exact hc p)
/-- The events come to, as the law counts them. -/
def comeL (h : List Ln) (i : Nat) : Nat → List Bool
  | 0 => []
  | m + 1 => comeL h i m ++ [if m < i then false else if m = i then true else (List.range m).any fun x => decide (i ≤ x) && ((comeL h i m).getD x false && edgeB h x m)]
theorem comeL_len (h : List Ln) (i m : Nat) : (comeL h i m).length = m := by
  induction m with
  | zero => rfl
  | succ m ih => simp [comeL, ih]
def comeB (h : List Ln) (i k : Nat) : Bool := (comeL h i (k + 1)).getD k false
theorem comeL_getD (h : List Ln) (i m k : Nat) (hk : k < m) : (comeL h i m).getD k false = comeB h i k := by
  induction m with
  | zero => omega
  | succ m ih =>
    by_cases e : k = m
    · rw [e]; rfl
    · rw [← ih (by omega), comeL]
      simp only [List.getD_eq_getElem?_getD]
      rw [List.getElem?_append_left (by rw [comeL_len]; omega)]
theorem comeB_eq (h : List Ln) (i k : Nat) : comeB h i k = if k < i then false else if k = i then true else (List.range k).any fun x => decide (i ≤ x) && (comeB h i x && edgeB h x k) := by
  have h1 : comeB h i k = if k < i then false else if k = i then true else (List.range k).any fun x => decide (i ≤ x) && ((comeL h i k).getD x false && edgeB h x k) := by
    unfold comeB
    rw [comeL]
    simp only [List.getD_eq_getElem?_getD]
    rw [List.getElem?_append_right (by rw [comeL_len]; omega), comeL_len]
    simp
  rw [h1]
  split
  · rfl
  · split
    · rfl
    · rw [Bool.eq_iff_iff, List.any_eq_true, List.any_eq_true]
      constructor
      · rintro ⟨x, hx, hb⟩
        refine ⟨x, hx, ?_⟩
        rw [comeL_getD h i k x (List.mem_range.1 hx)] at hb
        exact hb
      · rintro ⟨x, hx, hb⟩
        refine ⟨x, hx, ?_⟩
        rw [comeL_getD h i k x (List.mem_range.1 hx)]
        exact hb
theorem comeB_reach (h : List Ln) (i : Nat) : ∀ (n k : Nat), k < n → (comeB h i k = true ↔ Past h i k) := by
  intro n
  induction n with
  | zero => intro k h; omega
  | succ n ih =>
    intro k hn
    rw [comeB_eq]
    by_cases h1 : k < i
    · rw [if_pos h1]
      exact ⟨fun h => absurd h (by decide), fun r => absurd r.le (by omega)⟩
    · rw [if_neg h1]
      by_cases h2 : k = i
      · rw [if_pos h2, h2]; exact ⟨fun _ => .here, fun _ => rfl⟩
      · rw [if_neg h2]
        simp only [List.any_eq_true, List.mem_range, Bool.and_eq_true, decide_eq_true_eq]
        constructor
        · rintro ⟨x, hx, hix, hc, he⟩
          exact .step ((ih x (by omega)).1 hc) hx he
        · intro r
          cases r with
          | here => omega
          | step r' hx he => exact ⟨_, hx, r'.le, (ih _ (by omega)).2 r', he⟩
/-- The law of exactness. -/
theorem clockExact_law {h : List Ln} (hk : HOk h) {i k : Nat} (hi : i < h.length) (hl : k < h.length) : lessL (clk h i) (clk h k) = (decide (i ≠ k) && comeB h i k) := by
  rw [Bool.eq_iff_iff, Bool.and_eq_true, decide_eq_true_eq, comeB_reach h i (k + 1) k (by omega)]
  constructor
  · intro hb
    have := lessL_lt hk hi hl hb
    exact ⟨by omega, le_reach hk hi hl (lessL_iff.1 hb).1⟩
  · rintro ⟨h1, h2⟩
    exact le_less hk (by have := h2.le; omega) hl (reach_le hk h2 hl)
end Go
