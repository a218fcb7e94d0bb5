import Derived.Test.YtmdfkbckpekchaaK9
namespace Go
/-- A sum over the lanes. -/
def tot (f : Ln → Int) : List Ln → Int
  | [] => 0
  | l :: ls => f l + tot f ls
abbrev lat (ls : List Ln) (i : Nat) : Ln := ls.getD i ⟨0, 0, 0⟩
theorem tot_set (f : Ln → Int) (ls : List Ln) : ∀ (j : Nat) (L : Ln), j < ls.length → tot f (ls.set j L) = tot f ls - f (lat ls j) + f L := by
  induction ls with
  | nil => intro j L h; simp at h
  | cons l ls ih =>
    intro j L h
    cases j with
    | zero => simp [tot]; omega
    | succ j =>
      have := ih j L (by simpa using h)
      simp only [List.set_cons_succ, tot, lat, List.getD_cons_succ] at this ⊢
      omega
theorem tot_nonneg {f : Ln → Int} {ls : List Ln} (h : ∀ l ∈ ls, 0 ≤ f l) : 0 ≤ tot f ls := by
  induction ls with
  | nil => simp [tot]
  | cons l ls ih =>
    have h1 := h l (by simp)
    have h2 := ih fun x hx => h x (by simp [hx])
    simp only [tot]; omega
theorem tot_zero {f : Ln → Int} {ls : List Ln} (h : ∀ l ∈ ls, f l = 0) : tot f ls = 0 := by
  induction ls with
  | nil => simp [tot]
  | cons l ls ih =>
    have h1 := h l (by simp)
    have h2 := ih fun x hx => h x (by simp [hx])
    simp only [tot]; omega
theorem tot_le {f : Ln → Int} {ls : List Ln} {b : Int} (h : ∀ l ∈ ls, f l ≤ b) : tot f ls ≤ b * ls.length := by
  induction ls with
  | nil => simp [tot]
  | cons l ls ih =>
    have h1 := h l (by simp)
    have h2 := ih fun x hx => h x (by simp [hx])
    simp only [tot, List.length_cons]
    rw [show ((ls.length + 1 : Nat) : Int) = (ls.length : Int) + 1 by simp, Int.mul_add]
    omega
/-- One member is no more than the sum. -/
theorem tot_ge {f : Ln → Int} {ls : List Ln} (h : ∀ l ∈ ls, 0 ≤ f l) (i : Nat) (hi : i < ls.length) : f (lat ls i) ≤ tot f ls := by
  have h1 := tot_set f ls i (lat ls i) hi
  induction ls generalizing i with
  | nil => simp at hi
  | cons l ls ih =>
    have h3 := h l (by simp)
    have h4 := tot_nonneg (f := f) (ls := ls) fun x hx => h x (by simp [hx])
    cases i with
    | zero => simp only [tot, lat, List.getD_cons_zero]; omega
    | succ i =>
      have := ih (fun x hx => h x (by simp [hx])) i (by simpa using hi) (tot_set f ls i _ (by simpa using hi))
      simp only [tot, lat, List.getD_cons_succ] at *
      omega
theorem lat_mem {ls : List Ln} {i : Nat} (hi : i < ls.length) : lat ls i ∈ ls := by
  rw [lat, List.getD_eq_getElem?_getD, List.getElem?_eq_getElem hi]; exact List.getElem_mem hi
theorem mem_lat {ls : List Ln} {l : Ln} (h : l ∈ ls) : ∃ i, i < ls.length ∧ lat ls i = l := by
  obtain ⟨i, hi, rfl⟩ := List.getElem_of_mem h
  exact ⟨i, hi, by simp [lat, List.getD_eq_getElem?_getD, hi]⟩
theorem lat_set (ls : List Ln) (i j : Nat) (L : Ln) (hi : i < ls.length) : lat (ls.set i L) j = if i = j then L else lat ls j := by
  simp only [lat, List.getD_eq_getElem?_getD, List.getElem?_set]
  split
  · rename_i e; subst e; simp
  · rfl
theorem held_tot (ls : List Ln) : held ls = tot (fun l => l.g + l.u) ls := by
  induction ls with
  | nil => rfl
  | cons l ls ih => simp [held, tot, ih]
def sq (ls : List Ln) : Int := tot (fun l => l.q) ls
def phi (ls : List Ln) : Int := tot (fun l => 2 * l.q + 2 * l.g + l.u) ls
def hold (ls : List Ln) (i : Nat) : Int := (lat ls i).g + (lat ls i).u
/-- The search, told by its place. -/
theorem nextGo_at (ls : List Ln) (turn n : Nat) : ∀ (m k j : Nat), nextGo ls turn n m k = some j → ∃ d, d < m ∧ j = (turn + (k + d)) % n ∧ 0 < (lat ls j).q ∧ ∀ x, x < d → (lat ls ((turn + (k + x)) % n)).q ≤ 0 := by
  intro m
  induction m with
  | zero => intro k j h; cases h
  | succ m ih =>
    intro k j h
    rw [nextGo] at h
    split at h
    · rename_i hq
      obtain rfl := Option.some.inj h
      exact ⟨0, by omega, by simp, by simpa using hq, fun x hx => absurd hx (by omega)⟩
    · rename_i hq
      obtain ⟨d, hd, hj, hqj, hall⟩ := ih _ _ h
      refine ⟨d + 1, by omega, by rw [hj]; congr 1; omega, hqj, fun x hx => ?_⟩
      cases x with
      | zero => show ((ls.getD _ _).q ≤ 0); simp only [Nat.add_zero]; omega
      | succ x => have := hall x (by omega); rwa [show k + 1 + x = k + (x + 1) by omega] at this
theorem mod_two {a n : Nat} (h : a < 2 * n) : a % n = if a < n then a else a - n := by
  split
  · rename_i h1; exact Nat.mod_eq_of_lt h1
  · rw [Nat.mod_eq_sub_mod (by omega), Nat.mod_eq_of_lt (by omega)]
/-- From the turn on nothing wants ahead of the one that is found. -/
theorem nextL_before {ls : List Ln} {t j : Nat} (ht : t < ls.length) (h : nextL ls t = some j) {x : Nat} (hx : x < ls.length) (hq : 0 < (lat ls x).q) :
    (t ≤ j → (x < t ∨ j ≤ x)) ∧ (j < t → (x < t ∧ j ≤ x)) := by
  obtain ⟨d, hd, hj, _, hall⟩ := nextGo_at ls t _ _ _ _ h
  have hm : ∀ y, y < ls.length → (t + (0 + y)) % ls.length = if t + y < ls.length then t + y else t + y - ls.length := fun y hy => by
    rw [Nat.zero_add]; exact mod_two (by omega)
  rw [hm d hd] at hj
  have ho : x ≥ t → x - t < d → False := fun h1 h2 => by
    have := hall (x - t) h2
    rw [hm (x - t) (by omega), if_pos (by omega), show t + (x - t) = x by omega] at this
    omega
  have hw : x < t → x + ls.length - t < d → False := fun h1 h2 => by
    have := hall (x + ls.length - t) h2
    rw [hm (x + ls.length - t) (by omega), if_neg (by omega), show t + (x + ls.length - t) - ls.length = x by omega] at this
    omega
  by_cases hxt : t ≤ x
  · have h1 : d ≤ x - t := by
      by_cases h2 : d ≤ x - t
      · exact h2
      · exact (ho hxt (by omega)).elim
    split at hj
    · exact ⟨fun _ => by omega, fun _ => by omega⟩
    · exact ⟨fun _ => by omega, fun _ => by omega⟩
  · have h1 : d ≤ x + ls.length - t := by
      by_cases h2 : d ≤ x + ls.length - t
      · exact h2
      · exact (hw (by omega) (by omega)).elim
    split at hj
    · exact ⟨fun _ => by omega, fun _ => by omega⟩
    · exact ⟨fun _ => by omega, fun _ => by omega⟩
theorem nextL_lt {ls : List Ln} {t j : Nat} (h : nextL ls t = some j) : j < ls.length ∧ 0 < (lat ls j).q := nextL_spec h
end Go
