import Derived.Test.YtmkdppbnmogmlaaG7
namespace Go
/-- What is so of every node's knowledge. -/
structure GOk (me : Nat) (B : Int) (g : Gs) : Prop where
  len : g.len9
  mine : g.me = me
  me1 : 1 ≤ me
  me8 : me ≤ 8
  tk0 : 1 ≤ g.ticks
  tk1 : g.ticks ≤ 100
  B0 : 0 ≤ B
  BM : B ≤ 1099511627776
  row : ∀ m, m < 9 → lat g.rs m = ⟨0, 0, 0⟩ ∨ (1 ≤ m ∧ (lat g.rs m).q = m ∧ 0 ≤ (lat g.rs m).g ∧ (lat g.rs m).g ≤ B ∧ 1 ≤ (lat g.rs m).u ∧ (lat g.rs m).u ≤ 3)
  own : (lat g.rs me).q = me ∧ (lat g.rs me).u = 1
  tm : ∀ m, m < 9 → 0 ≤ g.ts.getD m 0 ∧ g.ts.getD m 0 ≤ 100 ∧ ((lat g.rs m).u = 2 → g.ts.getD m 0 < g.ticks)
/-- Just the nodes from 1 to n are known. -/
def Full (n : Nat) (g : Gs) : Prop := ∀ m, m < 9 → ((lat g.rs m).q ≠ 0 ↔ 1 ≤ m ∧ m ≤ n)
/-- What one row becomes by another one. -/
def upd (me : Int) (old r : Ln) : Ln :=
  if old.q ≠ 0 ∧ newerB r old = false then old else if r.q = me ∧ r.u ≠ 1 then ⟨me, min (r.g + 1) 1099511627776, 1⟩ else r
theorem getD_set_same {l : List Int} {i : Nat} (h : i < l.length) (x : Int) : (l.set i x).getD i 0 = x := by simp [List.getD_eq_getElem?_getD, h]
theorem getD_set_far {l : List Int} {i j : Nat} (h : i ≠ j) (x : Int) : (l.set i x).getD j 0 = l.getD j 0 := by simp [List.getD_eq_getElem?_getD, h]
theorem mergeStep_lat {g : Gs} (hl : g.len9) (r : Ln) {m : Nat} (hm : r.q = m) (h9 : m < 9) : lat (mergeStep g r).rs m = upd g.me (lat g.rs m) r ∧ ∀ x, x ≠ m → lat (mergeStep g r).rs x = lat g.rs x := by
  have hl1 := hl.1
  unfold mergeStep upd
  rw [hm, show ((m : Int)).toNat = m from rfl]
  split
  · exact ⟨rfl, fun _ _ => rfl⟩
  · split
    · refine ⟨by rw [lat_set _ _ _ _ (by omega), if_pos rfl], fun x hx => by rw [lat_set _ _ _ _ (by omega), if_neg (fun e => hx e.symm)]⟩
    · refine ⟨by rw [lat_set _ _ _ _ (by omega), if_pos rfl], fun x hx => by rw [lat_set _ _ _ _ (by omega), if_neg (fun e => hx e.symm)]⟩
theorem mergeStep_len {g : Gs} (hl : g.len9) (r : Ln) : (mergeStep g r).len9 := by
  unfold mergeStep Gs.len9 at *
  split
  · exact hl
  · split <;> simpa using hl
/-- The timers behind a step. -/
theorem mergeStep_ts {g : Gs} (hl : g.len9) (r : Ln) {m : Nat} (hm : r.q = m) (h9 : m < 9) : ((mergeStep g r).ts.getD m 0 = g.ts.getD m 0 ∧ (lat (mergeStep g r).rs m = lat g.rs m ∨ (lat (mergeStep g r).rs m).u = 1) ∨ (mergeStep g r).ts.getD m 0 = 0) ∧ ∀ x, x ≠ m → (mergeStep g r).ts.getD x 0 = g.ts.getD x 0 := by
  have hl1 := hl.1
  have hl2 := hl.2
  unfold mergeStep
  rw [hm, show ((m : Int)).toNat = m from rfl]
  split
  · exact ⟨.inl ⟨rfl, .inl rfl⟩, fun _ _ => rfl⟩
  · split
    · exact ⟨.inl ⟨rfl, .inr (by rw [lat_set _ _ _ _ (by omega), if_pos rfl])⟩, fun _ _ => rfl⟩
    · exact ⟨.inr (getD_set_same (by omega) 0), fun x hx => getD_set_far (fun e => hx e.symm) 0⟩
/-- Rows by node. -/
structure ByNode (ls : List Ln) (F : Nat → Ln) : Prop where
  at_ : ∀ m, m < 9 → (F m).q ≠ 0 → (F m).q = m
  zero : (F 0).q = 0
  eq : ls = ((List.range 9).map F).filter fun l => decide (l.q ≠ 0)
theorem merge_by {F : Nat → Ln} (hF : ∀ m, m < 9 → (F m).q ≠ 0 → (F m).q = m) : ∀ (k : Nat), k ≤ 9 → ∀ g : Gs, g.len9 →
    (mergeG g (((List.range k).map F).filter fun l => decide (l.q ≠ 0))).len9 ∧
    ∀ m, lat (mergeG g (((List.range k).map F).filter fun l => decide (l.q ≠ 0))).rs m = if m < k ∧ (F m).q ≠ 0 then upd g.me (lat g.rs m) (F m) else lat g.rs m := by
  intro k
  induction k with
  | zero => intro _ g hl; exact ⟨hl, fun m => by rw [if_neg (by omega)]; rfl⟩
  | succ k ih =>
    intro hk g hl
    obtain ⟨h1, h2⟩ := ih (by omega) g hl
    have e : mergeG g (((List.range (k + 1)).map F).filter fun l => decide (l.q ≠ 0)) = if (F k).q ≠ 0 then mergeStep (mergeG g (((List.range k).map F).filter fun l => decide (l.q ≠ 0))) (F k) else mergeG g (((List.range k).map F).filter fun l => decide (l.q ≠ 0)) := by
      rw [List.range_succ, List.map_append, List.filter_append]
      by_cases hq : (F k).q = 0
      · simp [hq, mergeG]
      · simp [hq, mergeG, List.foldl_append]
    rw [e]
    by_cases hq : (F k).q = 0
    · rw [if_neg (by simpa using hq)]
      refine ⟨h1, fun m => ?_⟩
      rw [h2]
      by_cases hm : m < k ∧ (F m).q ≠ 0
      · rw [if_pos hm, if_pos ⟨by omega, hm.2⟩]
      · rw [if_neg hm, if_neg]
        intro ⟨h3, h4⟩
        by_cases e : m = k
        · subst e; exact h4 hq
        · exact hm ⟨by omega, h4⟩
    · rw [if_pos hq]
      have hqm := hF k (by omega) hq
      obtain ⟨h3, h4⟩ := mergeStep_lat h1 (F k) hqm (by omega)
      refine ⟨mergeStep_len h1 _, fun m => ?_⟩
      by_cases e : m = k
      · subst e
        rw [h3, h2, if_neg (by omega), if_pos ⟨by omega, hq⟩, (mergeG_head _ g).1]
      · rw [h4 m e, h2]
        by_cases hm : m < k ∧ (F m).q ≠ 0
        · rw [if_pos hm, if_pos ⟨by omega, hm.2⟩]
        · rw [if_neg hm, if_neg (fun h => hm ⟨by omega, h.2⟩)]
theorem rs_range {rs : List Ln} (h : rs.length = 9) : rs = (List.range 9).map (lat rs) := by
  refine List.ext_getElem (by simp [h]) fun i h1 h2 => ?_
  simp [lat, List.getD_eq_getElem?_getD, h1]
theorem stateL_range {rs : List Ln} (h : rs.length = 9) : stateL rs = ((List.range 9).map (lat rs)).filter fun l => decide (l.q ≠ 0) := by
  conv => lhs; rw [rs_range h]
  rfl
/-- Hearing what another one says, row by row. -/
theorem merge_lat {g h : Gs} (hl : g.len9) (hh : h.len9) (hq : ∀ m, m < 9 → (lat h.rs m).q ≠ 0 → (lat h.rs m).q = m) (m : Nat) (hm : m < 9) :
    lat (mergeG g (stateL h.rs)).rs m = if (lat h.rs m).q ≠ 0 then upd g.me (lat g.rs m) (lat h.rs m) else lat g.rs m := by
  rw [stateL_range hh.1, (merge_by hq 9 (Nat.le_refl _) g hl).2 m]
  by_cases h1 : (lat h.rs m).q ≠ 0
  · rw [if_pos ⟨hm, h1⟩, if_pos h1]
  · rw [if_neg (fun h2 => h1 h2.2), if_neg h1]
theorem merge_len {g h : Gs} (hl : g.len9) (hh : h.len9) (hq : ∀ m, m < 9 → (lat h.rs m).q ≠ 0 → (lat h.rs m).q = m) : (mergeG g (stateL h.rs)).len9 := by
  rw [stateL_range hh.1]; exact (merge_by hq 9 (Nat.le_refl _) g hl).1
end Go
