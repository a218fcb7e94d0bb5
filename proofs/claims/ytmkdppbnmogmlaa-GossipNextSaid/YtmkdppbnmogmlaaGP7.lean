import Derived.Test.YtmkdppbnmogmlaaGP6
namespace Go
open Go.RowKit
/-- Two nodes; the second one is at his k-th turn. -/
structure Two (i : Nat) (k u : Int) (g : Gs) : Prop where
  ok : GOk i k g
  full : Full 2 g
  r1 : lat g.rs 1 = ⟨1, 0, 1⟩
  r2 : lat g.rs 2 = ⟨2, k, u⟩
theorem two_start (i : Nat) (hi : i < 2) : Two (i + 1) 0 1 (startG ((i : Int) + 1) 3 2) := by
  obtain ⟨h1, h2⟩ := startG_ok i 2 3 (by omega) hi (by omega) (by omega)
  exact ⟨h1, h2, by rw [startG_lat _ _ _ _ (by omega)]; rfl, by rw [startG_lat _ _ _ _ (by omega)]; rfl⟩
theorem two_doubt {k : Int} {g : Gs} (h : Two 1 k 1 g) : Two 1 k 2 (doubtG g 2) := by
  have hl := doubt_lat h.ok.len (m := 2) (by omega)
  have hn : ¬ (((2 : Nat) : Int) = g.me ∨ (lat g.rs 2).u ≠ 1) := by rw [h.ok.mine, h.r2]; simp
  exact ⟨ok_doubt h.ok (by omega), full_doubt h.ok h.full (by omega), by rw [hl, if_neg (fun h => by omega)]; exact h.r1, by rw [hl, if_pos ⟨rfl, hn⟩, h.r2]⟩
theorem two_tick {k u : Int} {g : Gs} (h : Two 1 k u g) (hu : u = 2 ∨ u = 3) : ∃ u', (u' = 2 ∨ u' = 3) ∧ Two 1 k u' (tickG g) := by
  have h1 := (tick_row h.ok.len (m := 1) (by omega)).1
  have h2 := (tick_row h.ok.len (m := 2) (by omega)).1
  rw [h.r1, if_neg (fun h => by simp at h)] at h1
  rw [h.r2] at h2
  dsimp only at h2
  by_cases hc : u = 2 ∧ g.ticks ≤ g.ts.getD 2 0 + 1
  · rw [if_pos hc] at h2
    exact ⟨3, .inr rfl, ok_tick h.ok, full_tick h.ok h.full, h1, h2⟩
  · rw [if_neg hc] at h2
    exact ⟨u, hu, ok_tick h.ok, full_tick h.ok h.full, h1, h2⟩
theorem upd_same (me : Int) (r : Ln) (h : r.q ≠ 0) : upd me r r = r := by
  unfold upd newerB
  rw [if_pos ⟨h, by simp⟩]
theorem two_hear {k u : Int} {g h : Gs} (hg : Two 2 k 1 g) (hh : Two 1 k u h) (hu : u = 2 ∨ u = 3) (hM : k + 1 ≤ 1099511627776) : Two 2 (k + 1) 1 (mergeG g (stateL h.rs)) := by
  have hl := merge_lat hg.ok.len hh.ok.len hh.ok.qs
  refine ⟨ok_merge hg.ok hh.ok (Int.le_refl _) hM, full_merge hg.ok hh.ok hg.full hh.full, ?_, ?_⟩
  · rw [hl 1 (by omega), hg.r1, hh.r1, if_pos (by simp), upd_same _ _ (by simp)]
  · rw [hl 2 (by omega), hg.r2, hh.r2, if_pos (by simp)]
    unfold upd newerB
    rw [if_neg (fun h => by have := h.2; simp at this; omega), if_pos ⟨by dsimp only; rw [hg.ok.mine]; rfl, by dsimp only; omega⟩, hg.ok.mine]
    have : min (k + 1) 1099511627776 = k + 1 := by omega
    simp only [this]; rfl
theorem two_told {k u : Int} {g h : Gs} (hg : Two 1 k u g) (hh : Two 2 (k + 1) 1 h) (hM : k + 2 ≤ 1099511627776) : lat (mergeG g (stateL h.rs)).rs 1 = ⟨1, 0, 1⟩ ∧ lat (mergeG g (stateL h.rs)).rs 2 = ⟨2, k + 1, 1⟩ ∧ GOk 1 (k + 2) (mergeG g (stateL h.rs)) ∧ Full 2 (mergeG g (stateL h.rs)) := by
  have hl := merge_lat hg.ok.len hh.ok.len hh.ok.qs
  have h0 := hg.ok.B0
  refine ⟨?_, ?_, ?_, full_merge hg.ok hh.ok hg.full hh.full⟩
  · rw [hl 1 (by omega), hg.r1, hh.r1, if_pos (by simp), upd_same _ _ (by simp)]
  · rw [hl 2 (by omega), hg.r2, hh.r2, if_pos (by simp)]
    unfold upd newerB
    rw [if_neg (fun h => by have := h.2; simp at this; omega), if_neg (fun h => by simp at h)]
  · have := ok_merge (hg.ok.more (B' := k + 1) (by omega) (by omega)) hh.ok (Int.le_refl _) (by omega)
    rwa [show k + 1 + 1 = k + 2 by omega] at this
/-- A bound that the rows themselves give. -/
theorem GOk.tight {i : Nat} {B B' : Int} {g : Gs} (h : GOk i B g) (h0 : 0 ≤ B') (hM : B' ≤ 1099511627776) (hb : ∀ m, m < 9 → (lat g.rs m).q ≠ 0 → (lat g.rs m).g ≤ B') : GOk i B' g :=
  ⟨h.len, h.mine, h.me1, h.me8, h.tk0, h.tk1, h0, hM, fun m hm => by
    rcases h.row m hm with h1 | h1
    · exact .inl h1
    · have := hb m hm (by omega); right; omega, h.own, h.tm⟩
theorem two_end {k u : Int} {g h : Gs} (hg : Two 1 k u g) (hh : Two 2 (k + 1) 1 h) (hM : k + 2 ≤ 1099511627776) : Two 1 (k + 1) 1 (mergeG g (stateL h.rs)) := by
  obtain ⟨h1, h2, h3, h4⟩ := two_told hg hh hM
  have h0 := hg.ok.B0
  refine ⟨h3.tight (by omega) (by omega) fun m hm hq => ?_, h4, h1, h2⟩
  have := (h4 m hm).1 hq
  rcases (by omega : m = 1 ∨ m = 2) with rfl | rfl
  · rw [h1]; dsimp only; omega
  · rw [h2]; dsimp only; omega
theorem two_state {k : Int} {i : Nat} {g : Gs} (h : Two i k 1 g) : stateL g.rs = [⟨1, 0, 1⟩, ⟨2, k, 1⟩] := by
  rw [full_state h.ok.len h.full (by omega)]
  show [lat g.rs 1, lat g.rs 2] = _
  rw [h.r1, h.r2]
end Go
