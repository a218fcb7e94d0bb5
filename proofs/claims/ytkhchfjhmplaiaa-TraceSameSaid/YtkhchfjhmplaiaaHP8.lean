import Derived.Test.YtkhchfjhmplaiaaHP6
namespace Go
open Go.RowKit
/-- The sum of the first k components. -/
def sumTo (xs : List Int) : Nat → Int
  | 0 => 0
  | k + 1 => sumTo xs k + xs.getD k 0
/-- The events ahead of i, of the first m. -/
def aheadN (h : List Ln) (i : Nat) : Nat → Int
  | 0 => 0
  | m + 1 => aheadN h i m + (if lessL (clk h m) (clk h i) = true then 1 else 0)
/-- The events apart from i, of the first m. -/
def apartN (h : List Ln) (i : Nat) : Nat → Int
  | 0 => 0
  | m + 1 => apartN h i m + (if (!lessL (clk h i) (clk h m) && !lessL (clk h m) (clk h i)) = true then 1 else 0)
theorem apart_ahead {h : List Ln} (hk : HOk h) {i : Nat} (hi : i < h.length) : ∀ m, m ≤ i → apartN h i m + aheadN h i m = m := by
  intro m
  induction m with
  | zero => intro _; rfl
  | succ m ih =>
    intro hm
    have h1 : lessL (clk h i) (clk h m) = false := by
      cases hb : lessL (clk h i) (clk h m) with
      | false => rfl
      | true => have := lessL_lt hk hi (by omega) hb; omega
    rw [apartN, aheadN, h1]
    have := ih (by omega)
    cases lessL (clk h m) (clk h i) <;> simp <;> omega
/-- Of a place's events, those in i's past or i itself. -/
def pastN (h : List Ln) (i p : Nat) : Nat → Int
  | 0 => 0
  | m + 1 => pastN h i p m + (if (lat h m).q = p ∧ (m = i ∨ lessL (clk h m) (clk h i) = true) then 1 else 0)
theorem past_iff {h : List Ln} (hk : HOk h) {i m p : Nat} (hi : i < h.length) (hm : m < h.length) (hp : (lat h m).q = p) : (m = i ∨ lessL (clk h m) (clk h i) = true) ↔ cntP h p (m + 1) ≤ (clk h i).getD p 0 := by
  have h1 := (clk_cnt hk (m + 1) m (by omega) hm).2 p hp
  constructor
  · rintro (rfl | h2)
    · omega
    · have := (lessL_iff.1 h2).1 p
      omega
  · intro h2
    have h3 := cnt_reach hk hm hp (i + 1) i (by omega) hi h2
    by_cases e : m = i
    · exact .inl e
    · exact .inr (le_less hk (by have := h3.le; omega) hi (reach_le hk h3 hi))
theorem pastN_eq {h : List Ln} (hk : HOk h) {i p : Nat} (hi : i < h.length) : ∀ m, m ≤ h.length → pastN h i p m = min (cntP h p m) ((clk h i).getD p 0) := by
  have h0 := ((clk_ok hk i hi).at_ (by omega) p).1
  intro m
  induction m with
  | zero => intro _; show (0 : Int) = min 0 _; omega
  | succ m ih =>
    intro hm
    rw [pastN, ih (by omega), cntP]
    by_cases hp : (lat h m).q = p
    · have h1 := past_iff hk hi (show m < h.length by omega) hp
      rw [cntP, if_pos hp] at h1
      rw [if_pos hp]
      by_cases h2 : cntP h p m + 1 ≤ (clk h i).getD p 0
      · rw [if_pos ⟨hp, h1.2 h2⟩]; omega
      · rw [if_neg (fun h3 => h2 (h1.1 h3.2))]; omega
    · rw [if_neg (fun h3 => hp h3.1), if_neg hp]; omega
theorem pastN_clk {h : List Ln} (hk : HOk h) {i p : Nat} (hi : i < h.length) : pastN h i p (i + 1) = (clk h i).getD p 0 := by
  rw [pastN_eq hk hi (i + 1) (by omega)]
  have := (clk_cnt hk (i + 1) i (by omega) hi).1 p
  omega
theorem pastN_all {h : List Ln} (hk : HOk h) {i : Nat} (hi : i < h.length) : ∀ m, m ≤ i → pastN h i 0 m + pastN h i 1 m + pastN h i 2 m + pastN h i 3 m + pastN h i 4 m + pastN h i 5 m + pastN h i 6 m + pastN h i 7 m = aheadN h i m := by
  intro m
  induction m with
  | zero => intro _; rfl
  | succ m ih =>
    intro hm
    have := ih (by omega)
    have he := hk.ev m (by omega)
    simp only [pastN, aheadN]
    generalize lat h m = L at *
    cases lessL (clk h m) (clk h i) with
    | false => simp [show ¬ m = i by omega]; omega
    | true =>
      simp only [or_true, and_true, if_true]
      rcases (by omega : L.q = 0 ∨ L.q = 1 ∨ L.q = 2 ∨ L.q = 3 ∨ L.q = 4 ∨ L.q = 5 ∨ L.q = 6 ∨ L.q = 7) with e | e | e | e | e | e | e | e <;> (rw [e]; simp; omega)
theorem sumTo_clk {h : List Ln} (hk : HOk h) {i : Nat} (hi : i < h.length) : sumTo (clk h i) 8 = aheadN h i i + 1 := by
  have h1 := pastN_all hk hi i (Nat.le_refl _)
  have he := hk.ev i hi
  have h2 : ∀ p : Nat, (clk h i).getD p 0 = pastN h i p i + (if (lat h i).q = p then 1 else 0) := fun p => by
    rw [← pastN_clk hk hi, pastN]; simp
  simp only [sumTo, h2]
  generalize lat h i = L at *
  rcases (by omega : L.q = 0 ∨ L.q = 1 ∨ L.q = 2 ∨ L.q = 3 ∨ L.q = 4 ∨ L.q = 5 ∨ L.q = 6 ∨ L.q = 7) with e | e | e | e | e | e | e | e <;> (rw [e]; simp; omega)
theorem aheadN_nn (h : List Ln) (i : Nat) : ∀ m, 0 ≤ aheadN h i m ∧ aheadN h i m ≤ m := by
  intro m
  induction m with
  | zero => exact ⟨Int.le_refl _, Int.le_refl _⟩
  | succ m ih => rw [aheadN]; split <;> omega
/-- All pairs apart, of the first m events; and all that are ahead of one. -/
def apartAll (h : List Ln) : Nat → Int
  | 0 => 0
  | m + 1 => apartAll h m + apartN h m m
def aheadAll (h : List Ln) : Nat → Int
  | 0 => 0
  | m + 1 => aheadAll h m + aheadN h m m
theorem apart_law {h : List Ln} (hk : HOk h) : ∀ m, m ≤ h.length → 2 * (apartAll h m + aheadAll h m) = m * (m - 1) := by
  intro m
  induction m with
  | zero => intro _; rfl
  | succ m ih =>
    intro hm
    have h1 := ih (by omega)
    have h2 := apart_ahead hk (show m < h.length by omega) m (Nat.le_refl _)
    rw [apartAll, aheadAll]
    have h3 : ((m + 1 : Nat) : Int) * (((m + 1 : Nat) : Int) - 1) = (m : Int) * (m - 1) + 2 * m := by
      rw [show ((m + 1 : Nat) : Int) = (m : Int) + 1 by omega, show (m : Int) + 1 - 1 = m by omega, Int.add_mul, Int.mul_sub]; omega
    rw [h3, ← h1]; omega
end Go
