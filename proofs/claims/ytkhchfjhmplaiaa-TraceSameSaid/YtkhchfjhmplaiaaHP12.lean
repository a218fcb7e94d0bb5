import Derived.Test.YtkhchfjhmplaiaaHP10
import Derived.Test.YtkhchfjhmplaiaaHP11
namespace Go
open Go.RowKit
/-- What f says of the chosen ones. -/
def pick {α : Type} (P : Nat → Bool) (f : Nat → α) (n : Nat) : List α := ((List.range n).filter P).map f
theorem pick_succ {α : Type} (P : Nat → Bool) (f : Nat → α) (k : Nat) : pick P f (k + 1) = pick P f k ++ (if P k = true then [f k] else []) := by
  unfold pick
  rw [List.range_succ, List.filter_append, List.map_append]
  by_cases e : P k = true
  · simp [e]
  · simp [e]
theorem pick_len {α : Type} (P : Nat → Bool) (f : Nat → α) (k : Nat) : (pick P f k).length = rk P k := by simp [pick, rk]
theorem sw_same {i k : Nat} (h1 : k ≠ i) (h2 : k ≠ i + 1) : sw i k = k := by unfold sw; rw [if_neg h1, if_neg h2]
theorem sw_i (i : Nat) : sw i i = i + 1 := by unfold sw; rw [if_pos rfl]
theorem sw_i1 (i : Nat) : sw i (i + 1) = i := by unfold sw; rw [if_neg (by omega), if_pos rfl]
theorem pick_swap {α : Type} {P P' : Nat → Bool} {f f' : Nat → α} {i n : Nat} (hi : i + 1 < n) (hP : ∀ k, k < n → P' k = P (sw i k)) (hf : ∀ k, k < n → f' k = f (sw i k)) (hno : ¬ (P i = true ∧ P (i + 1) = true)) : pick P' f' n = pick P f n := by
  have hlow : ∀ m, m ≤ i → pick P' f' m = pick P f m := fun m => by
    induction m with
    | zero => intro _; rfl
    | succ m ih =>
      intro hm
      rw [pick_succ, pick_succ, ih (by omega), hP m (by omega), hf m (by omega), sw_same (by omega) (by omega)]
  have hhigh : ∀ m, i + 2 ≤ m → m ≤ n → pick P' f' m = pick P f m := fun m => by
    induction m with
    | zero => intro h; omega
    | succ m ih =>
      intro h1 h2
      by_cases e : m = i + 1
      · subst e
        rw [pick_succ, pick_succ, pick_succ P f, pick_succ P f, hlow i (Nat.le_refl _), hP i (by omega), hf i (by omega), hP (i + 1) (by omega), hf (i + 1) (by omega), sw_i, sw_i1]
        by_cases e1 : P i = true
        · have e2 : ¬ P (i + 1) = true := fun e2 => hno ⟨e1, e2⟩
          rw [if_neg e2, if_pos e1]; simp
        · rw [if_neg e1]; simp
      · rw [pick_succ, pick_succ, ih (by omega) (by omega), hP m (by omega), hf m (by omega), sw_same (by omega) (by omega)]
  exact hhigh n (by omega) (Nat.le_refl _)
def plQ (h : List Ln) (p : Int) (j : Nat) : Bool := decide ((lat h j).q = p)
/-- The clocks of a place. -/
def clkAt (h : List Ln) (p : Int) : List (List Int) := pick (plQ h p) (clk h) h.length
def evAt (h : List Ln) (p : Int) : List Ln := pick (plQ h p) (lat h) h.length
/-- SameAt at every place. -/
structure SameAt (h g : List Ln) : Prop where
  len : g.length = h.length
  ev : ∀ p, evAt g p = evAt h p
  ck : ∀ p, clkAt g p = clkAt h p
theorem SameAt.refl (h : List Ln) : SameAt h h := ⟨rfl, fun _ => rfl, fun _ => rfl⟩
theorem SameAt.swap {h g : List Ln} (r : SameAt h g) (hk : HOk g) {i : Nat} (hf : Free g i) : SameAt h (swapL g i) := by
  have hi := hf.at_
  have hl := swapL_len g i
  have hno : ∀ p, ¬ (plQ g p i = true ∧ plQ g p (i + 1) = true) := fun p e => by
    unfold plQ at e
    have e1 := of_decide_eq_true e.1
    have e2 := of_decide_eq_true e.2
    exact hf.place (e1.trans e2.symm)
  have hP : ∀ p k, plQ (swapL g i) p k = plQ g p (sw i k) := fun p k => by unfold plQ; rw [lat_swap hi]
  refine ⟨hl.trans r.len, fun p => ?_, fun p => ?_⟩
  · rw [← r.ev p]
    unfold evAt
    rw [hl]
    exact pick_swap hi (fun k _ => hP p k) (fun k _ => lat_swap hi k) (hno p)
  · rw [← r.ck p]
    unfold clkAt
    rw [hl]
    exact pick_swap hi (fun k _ => hP p k) (fun k hkl => swap_clk' hk hf hkl) (hno p)
/-- A sound exchange of neighbours at two places: they are not bound. -/
theorem free_sound {g : List Ln} (hk : HOk g) {i : Nat} (hi : i + 1 < g.length) (hq : (lat g i).q ≠ (lat g (i + 1)).q) (hs : HOk (swapL g i)) : Free g i := by
  refine ⟨hi, hq, fun e => ?_⟩
  have hl := swapL_len g i
  have e1 : lat (swapL g i) i = lat g (i + 1) := by rw [lat_swap hi, sw_i]
  obtain ⟨j, hj, h1, h2⟩ := hs.sent i (by omega) (by rw [e1]; exact e.2.1)
  rw [lat_swap hi, sw_same (by omega) (by omega)] at h1 h2
  rw [e1] at h2
  exact hk.sends j i hj (by omega) h1 e.1 (h2.trans e.2.2.symm)
end Go
