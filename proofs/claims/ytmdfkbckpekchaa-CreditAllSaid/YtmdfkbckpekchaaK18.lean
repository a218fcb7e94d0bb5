import Derived.Test.YtmdfkbckpekchaaK17
namespace Go
def btot (f : Ln → Int) (ls : List Ln) (i : Nat) : Nat → Int
  | 0 => 0
  | k + 1 => btot f ls i k + if k = i then 0 else f (lat ls k)
theorem btot_take (f : Ln → Int) (ls : List Ln) (i : Nat) : ∀ k, k ≤ ls.length → btot f ls i k = tot f (ls.take k) - if i < k then f (lat ls i) else 0 := by
  intro k
  induction k with
  | zero => intro _; simp [btot, tot]
  | succ k ih =>
    intro hk
    have := ih (by omega)
    rw [btot, this, tot_take_succ f ls k (by omega)]
    by_cases e : k = i
    · subst e; rw [if_neg (by omega), if_pos rfl, if_pos (by omega)]; omega
    · rw [if_neg e]
      by_cases h : i < k
      · rw [if_pos h, if_pos (by omega)]; omega
      · rw [if_neg h, if_neg (by omega)]; omega
theorem btot_end (f : Ln → Int) (ls : List Ln) {i : Nat} (hi : i < ls.length) : btot f ls i ls.length = tot f ls - f (lat ls i) := by
  rw [btot_take f ls i _ (Nat.le_refl _), List.take_length, if_pos hi]
theorem btot_bd {f : Ln → Int} {ls : List Ln} {b : Int} (i : Nat) (h : ∀ x, 0 ≤ f (lat ls x) ∧ f (lat ls x) ≤ b) : ∀ k : Nat, 0 ≤ btot f ls i k ∧ btot f ls i k ≤ b * k := by
  intro k
  induction k with
  | zero => simp [btot]
  | succ k ih =>
    have := h k
    rw [btot, show ((k + 1 : Nat) : Int) = (k : Int) + 1 by simp, Int.mul_add]
    split <;> omega
theorem grantGo_sum : ∀ (m t : Nat) (ls : List Ln), ∃ c : Int, 0 ≤ c ∧ c ≤ m ∧ held (grantGo m ls t).1 = held ls + c ∧ tot (fun l => l.g) (grantGo m ls t).1 = tot (fun l => l.g) ls + c ∧ sq (grantGo m ls t).1 = sq ls - c ∧
    ∀ x, lat ls x = ⟨0, 0, 0⟩ → lat (grantGo m ls t).1 x = ⟨0, 0, 0⟩ := by
  intro m
  induction m with
  | zero => intro t ls; exact ⟨0, by omega, by omega, by simp [grantGo], by simp [grantGo], by simp [grantGo], fun x h => h⟩
  | succ m ih =>
    intro t ls
    cases hn : nextL ls t with
    | none => rw [grantGo, hn]; exact ⟨0, by omega, by omega, by simp, by simp, by simp, fun x h => h⟩
    | some j =>
      rw [grantGo, hn]
      dsimp only
      obtain ⟨c, h0, h1, h2, h3, h4, h5⟩ := ih ((j + 1) % ls.length) (give ls j)
      have hj := nextL_lt hn
      have e1 := held_give ls j hj.1
      have e2 : tot (fun l => l.g) (give ls j) = tot (fun l => l.g) ls + 1 := by
        rw [give, tot_set _ _ _ _ hj.1]; dsimp only [lat]; omega
      have e3 : sq (give ls j) = sq ls - 1 := by
        unfold sq; rw [give, tot_set _ _ _ _ hj.1]; dsimp only [lat]; omega
      refine ⟨c + 1, by omega, by omega, by omega, by omega, by omega, fun x hx => h5 x ?_⟩
      rw [lat_give _ _ _ hj.1]
      by_cases e : j = x
      · subst e; rw [hx] at hj; exact absurd hj.2 (by simp)
      · rw [if_neg e]; exact hx
end Go
namespace Go.Proofs.Ytmdfkbckpekchaa
open Go.RowKit
/-- What a drop leaves. -/
theorem drop_law {room : Int} {n t i : Nat} {ls : List Ln} (hok : PoolOk room n t ls) (hi : i < n) :
    PoolOk room n (grantL room (ls.set i ⟨0, 0, 0⟩) t).2 (grantL room (ls.set i ⟨0, 0, 0⟩) t).1 ∧
    btot (fun l => l.g) (grantL room (ls.set i ⟨0, 0, 0⟩) t).1 i n = btot (fun l => l.g) ls i n + min (btot (fun l => l.q) ls i n) (room - Go.held ls + (lat ls i).g + (lat ls i).u) ∧
    room - Go.held (grantL room (ls.set i ⟨0, 0, 0⟩) t).1 = room - Go.held ls + (lat ls i).g + (lat ls i).u - min (btot (fun l => l.q) ls i n) (room - Go.held ls + (lat ls i).g + (lat ls i).u) := by
  have hil : i < ls.length := by rw [hok.len]; exact hi
  have hnew : PoolOk room n t (ls.set i ⟨0, 0, 0⟩) := hok.put hi ⟨0, 0, 0⟩ (by simp [LnOk]) (by have := getD_ok hok.ok i; unfold LnOk at this; dsimp only; omega)
  obtain ⟨h1, h2⟩ := grantL_ok hnew
  obtain ⟨c, c0, c1, c2, c3, c4, c5⟩ := grantGo_sum (room - Go.held (ls.set i ⟨0, 0, 0⟩)).toNat t (ls.set i ⟨0, 0, 0⟩)
  have e : grantGo (room - Go.held (ls.set i ⟨0, 0, 0⟩)).toNat (ls.set i ⟨0, 0, 0⟩) t = grantL room (ls.set i ⟨0, 0, 0⟩) t := rfl
  rw [e] at c2 c3 c4 c5
  have hz : lat (ls.set i ⟨0, 0, 0⟩) i = ⟨0, 0, 0⟩ := by rw [lat_set _ _ _ _ hil, if_pos rfl]
  have d1 := held_set ls i ⟨0, 0, 0⟩ hil
  have d2 := tot_set (fun l => l.g) ls i ⟨0, 0, 0⟩ hil
  have d3 := tot_set (fun l => l.q) ls i ⟨0, 0, 0⟩ hil
  have b1 := btot_end (fun l => l.g) ls hil
  have b2 := btot_end (fun l => l.q) ls hil
  have hi2 : i < (grantL room (ls.set i ⟨0, 0, 0⟩) t).1.length := by rw [h1.len]; exact hi
  have b3 := btot_end (fun l => l.g) (grantL room (ls.set i ⟨0, 0, 0⟩) t).1 hi2
  rw [c5 i hz] at b3
  rw [hok.len] at b1 b2
  rw [h1.len] at b3
  have s0 : 0 ≤ sq (grantL room (ls.set i ⟨0, 0, 0⟩) t).1 := tot_nonneg h1.sq0
  have hh := h1.held
  have hh0 := hnew.held
  dsimp only at d1 d2 d3 b1 b2 b3
  have hc : c = min (sq (ls.set i ⟨0, 0, 0⟩)) (room - Go.held (ls.set i ⟨0, 0, 0⟩)) := by
    rcases h2 with h2 | h2
    · omega
    · have : sq (grantL room (ls.set i ⟨0, 0, 0⟩) t).1 = 0 := tot_zero h2
      omega
  have s1 : sq (ls.set i ⟨0, 0, 0⟩) = btot (fun l => l.q) ls i n := by unfold sq; omega
  have s2 : room - Go.held (ls.set i ⟨0, 0, 0⟩) = room - Go.held ls + (lat ls i).g + (lat ls i).u := by dsimp only [lat]; omega
  rw [s1, s2] at hc
  refine ⟨h1, ?_, ?_⟩
  · rw [← hc]; omega
  · rw [← hc]; omega
end Go.Proofs.Ytmdfkbckpekchaa
