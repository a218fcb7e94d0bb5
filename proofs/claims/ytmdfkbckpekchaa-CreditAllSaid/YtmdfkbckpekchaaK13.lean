import Derived.Test.YtmdfkbckpekchaaK12
namespace Go
def pl (n : Nat) (f : Nat → Ln) : List Ln := (List.range n).map f
theorem pl_len (n : Nat) (f : Nat → Ln) : (pl n f).length = n := by simp [pl]
theorem pl_lat (n : Nat) (f : Nat → Ln) (x : Nat) (hx : x < n) : lat (pl n f) x = f x := by
  simp [lat, pl, List.getD_eq_getElem?_getD, hx]
theorem pl_set (n : Nat) (f : Nat → Ln) (i : Nat) (L : Ln) : (pl n f).set i L = pl n (fun x => if x = i then L else f x) := by
  refine List.ext_getElem? fun x => ?_
  simp only [pl, List.getElem?_set, List.getElem?_map, List.length_map, List.length_range]
  by_cases hx : x < n
  · by_cases e : i = x
    · subst e; simp [hx]
    · have e2 : ¬ x = i := fun h => e h.symm
      simp [e, e2, hx]
  · by_cases e : i = x
    · subst e; simp [hx]
    · simp [e, hx]
theorem pl_congr {n : Nat} {f g : Nat → Ln} (h : ∀ x, x < n → f x = g x) : pl n f = pl n g := by
  unfold pl
  exact List.map_congr_left fun x hx => h x (List.mem_range.1 hx)
theorem nextL_here {ls : List Ln} {t : Nat} (ht : t < ls.length) (hq : 0 < (lat ls t).q) : nextL ls t = some t := by
  rw [nextL, show ls.length = (ls.length - 1) + 1 by omega, nextGo]
  rw [show (t + 0) % (ls.length - 1 + 1) = t by rw [Nat.add_zero, show ls.length - 1 + 1 = ls.length by omega]; exact Nat.mod_eq_of_lt ht]
  rw [if_pos (by exact hq)]
/-- How many of k slots lane x was given, if lane 1 % n comes first. -/
def cnt (n x k : Nat) : Nat := (k + (n - 1 - (x + n - 1) % n)) / n
theorem cnt_zero (n x : Nat) (h1 : 1 ≤ n) : cnt n x 0 = 0 := by
  unfold cnt
  have := Nat.mod_lt (x + n - 1) (show n > 0 by omega)
  exact Nat.div_eq_of_lt (by omega)
theorem cnt_succ (n x k : Nat) (h1 : 1 ≤ n) (h8 : n ≤ 8) (hx : x < n) : cnt n x (k + 1) = cnt n x k + if x = (1 + k) % n then 1 else 0 := by
  unfold cnt
  rcases (by omega : n = 1 ∨ n = 2 ∨ n = 3 ∨ n = 4 ∨ n = 5 ∨ n = 6 ∨ n = 7 ∨ n = 8) with rfl | rfl | rfl | rfl | rfl | rfl | rfl | rfl <;> (split <;> omega)
theorem cnt_le (n x k : Nat) (h1 : 1 ≤ n) (h8 : n ≤ 8) : cnt n x k ≤ k := by
  unfold cnt
  rcases (by omega : n = 1 ∨ n = 2 ∨ n = 3 ∨ n = 4 ∨ n = 5 ∨ n = 6 ∨ n = 7 ∨ n = 8) with rfl | rfl | rfl | rfl | rfl | rfl | rfl | rfl <;> omega
theorem cnt_near (n x y k : Nat) (h1 : 1 ≤ n) (h8 : n ≤ 8) : cnt n x k ≤ cnt n y k + 1 := by
  unfold cnt
  rcases (by omega : n = 1 ∨ n = 2 ∨ n = 3 ∨ n = 4 ∨ n = 5 ∨ n = 6 ∨ n = 7 ∨ n = 8) with rfl | rfl | rfl | rfl | rfl | rfl | rfl | rfl <;> omega
/-- While one lane waits alone it is given all. -/
def lonely (n : Nat) (q g : Int) : List Ln := pl n fun x => if x = 0 then ⟨q, g, 0⟩ else ⟨0, 0, 0⟩
theorem lonely_give (n : Nat) (q g : Int) (hn : 1 ≤ n) : give (lonely n q g) 0 = lonely n (q - 1) (g + 1) := by
  have h := pl_lat n (fun x => if x = 0 then (⟨q, g, 0⟩ : Ln) else ⟨0, 0, 0⟩) 0 (by omega)
  unfold lat at h
  rw [give, lonely, h, pl_set]
  refine pl_congr fun x _ => ?_
  by_cases e : x = 0
  · subst e; simp
  · simp [e]
theorem lonely_next (n t : Nat) (q g : Int) (hn : 1 ≤ n) (ht : t < n) (hq : 0 < q) : nextL (lonely n q g) t = some 0 := by
  have hl : (lonely n q g).length = n := pl_len _ _
  cases h : nextL (lonely n q g) t with
  | none =>
    have := Proofs.Ytmdfkbckpekchaa.nextL_none (by rw [hl]; exact ht) h 0 (by rw [hl]; omega)
    have h2 := pl_lat n (fun x => if x = 0 then (⟨q, g, 0⟩ : Ln) else ⟨0, 0, 0⟩) 0 (by omega)
    unfold lat at h2
    rw [lonely, h2] at this
    simp only [if_true] at this
    omega
  | some j =>
    have := nextL_lt h
    rw [hl] at this
    rw [lonely, pl_lat _ _ _ this.1] at this
    by_cases e : j = 0
    · rw [e]
    · rw [if_neg e] at this
      exact absurd this.2 (by simp)
theorem lonely_grant (n : Nat) (hn : 1 ≤ n) : ∀ (m t : Nat) (q g : Int), t < n → (m : Int) ≤ q → grantGo m (lonely n q g) t = (lonely n (q - m) (g + m), if m = 0 then t else 1 % n) := by
  intro m
  induction m with
  | zero => intro t q g ht hq; simp [grantGo]
  | succ m ih =>
    intro t q g ht hq
    rw [grantGo, lonely_next n t q g hn ht (by omega)]
    show grantGo m (give (lonely n q g) 0) ((0 + 1) % (lonely n q g).length) = _
    rw [lonely_give n q g hn, show (lonely n q g).length = n from pl_len _ _, ih _ _ _ (Nat.mod_lt _ (by omega)) (by omega)]
    have e1 : q - 1 - (m : Int) = q - ((m + 1 : Nat) : Int) := by omega
    have e2 : g + 1 + (m : Int) = g + ((m + 1 : Nat) : Int) := by omega
    rw [e1, e2]
    congr 1
    by_cases e : m = 0 <;> simp [e]
end Go
