import Derived.Test.YtmkdppbnmogmlaaGP2
namespace Go
theorem gs_ext {a b : Gs} (ha : a.len9) (hb : b.len9) (h1 : a.me = b.me) (h2 : a.ticks = b.ticks) (h3 : a.last = b.last) (h4 : ∀ m, m < 9 → lat a.rs m = lat b.rs m) (h5 : ∀ m, m < 9 → a.ts.getD m 0 = b.ts.getD m 0) : a = b := by
  have e1 : a.rs = b.rs := lat_ext (by rw [ha.1, hb.1]) fun i hi => h4 i (by rw [← ha.1]; exact hi)
  have e2 : a.ts = b.ts := by
    refine List.ext_getElem (by rw [ha.2, hb.2]) fun i g1 g2 => ?_
    have := h5 i (by rw [← ha.2]; exact g1)
    simpa [List.getD_eq_getElem?_getD, g1, g2] using this
  obtain ⟨_, _, _, _, _⟩ := a
  obtain ⟨_, _, _, _, _⟩ := b
  dsimp only at *
  subst h1 h2 h3 e1 e2
  rfl
theorem tick_len {g : Gs} (h : g.len9) : (tickG g).len9 := by
  have := tickTo_len g 9
  exact ⟨this.1.trans h.1, this.2.trans h.2⟩
theorem tick_head (g : Gs) : (tickG g).me = g.me ∧ (tickG g).ticks = g.ticks ∧ (tickG g).last = g.last := tickTo_head g 9
theorem tick_row {g : Gs} (h : g.len9) {m : Nat} (hm : m < 9) :
    lat (tickG g).rs m = (if (lat g.rs m).u = 2 ∧ g.ticks ≤ g.ts.getD m 0 + 1 then ⟨(lat g.rs m).q, (lat g.rs m).g, 3⟩ else lat g.rs m) ∧
    (tickG g).ts.getD m 0 = if (lat g.rs m).u = 2 then g.ts.getD m 0 + 1 else g.ts.getD m 0 := by
  obtain ⟨h1, h2⟩ := tickTo_done g 9 m hm
  have e : tickG g = tickTo g 9 := rfl
  rw [e, h1, h2]
  unfold tickStep
  by_cases hu : (lat g.rs m).u = 2
  · rw [if_pos hu, if_pos hu]
    dsimp only
    refine ⟨?_, getD_set_same (by have := h.2; omega) _⟩
    by_cases ht : g.ticks ≤ g.ts.getD m 0 + 1
    · rw [if_pos ht, if_pos ⟨hu, ht⟩, lat_set _ _ _ _ (by have := h.1; omega), if_pos rfl]
    · rw [if_neg ht, if_neg (fun h => ht h.2)]
  · rw [if_neg hu, if_neg hu, if_neg (fun h => hu h.1)]
    exact ⟨rfl, rfl⟩
/-- One node is doubted, and k ticks have gone by. -/
def doubted (T : Int) (k : Int) : Gs := ⟨1, T, 0, ((List.range 9).map (rowF 3)).set 2 ⟨2, 0, if k < T then 2 else 3⟩, (List.replicate 9 0).set 2 k⟩
theorem doubted_len (T k : Int) : (doubted T k).len9 := ⟨by simp [doubted], by simp [doubted]⟩
theorem doubted_lat (T k : Int) (m : Nat) (hm : m < 9) : lat (doubted T k).rs m = if 2 = m then ⟨2, 0, if k < T then 2 else 3⟩ else rowF 3 m := by
  rw [doubted, lat_set _ _ _ _ (by simp)]
  by_cases e : 2 = m
  · rw [if_pos e, if_pos e]
  · rw [if_neg e, if_neg e]; simp [lat, List.getD_eq_getElem?_getD, hm]
theorem doubted_ts (T k : Int) (m : Nat) : (doubted T k).ts.getD m 0 = if 2 = m then k else 0 := by
  rw [doubted]
  by_cases e : 2 = m
  · subst e; rw [getD_set_same (by simp), if_pos rfl]
  · rw [getD_set_far e, if_neg e]
    simp only [List.getD_eq_getElem?_getD, List.getElem?_replicate]; split <;> rfl
theorem rowF_u (n m : Nat) : (rowF n m).u ≠ 2 := by unfold rowF; split <;> simp
theorem doubted_tick (T k : Int) (hk : k < T) : tickG (doubted T k) = doubted T (k + 1) := by
  have hl := doubted_len T k
  refine gs_ext (tick_len hl) (doubted_len _ _) (tick_head _).1 (tick_head _).2.1 (tick_head _).2.2 (fun m hm => ?_) (fun m hm => ?_)
  · rw [(tick_row hl hm).1, doubted_lat _ _ _ hm, doubted_lat _ _ _ hm, doubted_ts]
    by_cases e : 2 = m
    · simp only [if_pos e]
      rw [if_pos hk]
      show (if (2 : Int) = 2 ∧ T ≤ k + 1 then _ else _) = _
      by_cases h : T ≤ k + 1
      · rw [if_pos ⟨rfl, h⟩, if_neg (by omega)]
      · rw [if_neg (fun h2 => h h2.2), if_pos (by omega)]
    · simp only [if_neg e]
      rw [if_neg (fun h => rowF_u 3 m h.1)]
  · rw [(tick_row hl hm).2, doubted_lat _ _ _ hm, doubted_ts, doubted_ts]
    by_cases e : 2 = m
    · simp only [if_pos e]; rw [if_pos hk, if_pos rfl]
    · simp only [if_neg e]; rw [if_neg (rowF_u 3 m)]
theorem start_tick (me T : Int) (n : Nat) : tickG (startG me T n) = startG me T n := by
  have hl : (startG me T n).len9 := ⟨by simp [startG], by simp [startG]⟩
  refine gs_ext (tick_len hl) hl (tick_head _).1 (tick_head _).2.1 (tick_head _).2.2 (fun m hm => ?_) (fun m hm => ?_)
  · rw [(tick_row hl hm).1, startG_lat _ _ _ _ hm, if_neg (fun h => rowF_u n m h.1)]
  · rw [(tick_row hl hm).2, startG_lat _ _ _ _ hm, if_neg (rowF_u n m)]
end Go
