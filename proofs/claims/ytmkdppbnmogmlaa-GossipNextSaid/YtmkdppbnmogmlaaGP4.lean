import Derived.Test.YtmkdppbnmogmlaaGP3
namespace Go
theorem stateL_filter {rs : List Ln} (h : rs.length = 9) : stateL rs = ((List.range 9).filter fun m => decide ((lat rs m).q ≠ 0)).map (lat rs) := by
  rw [stateL_range h, List.filter_map]; rfl
theorem rows_ok {me : Nat} {B : Int} {h : Gs} (hk : GOk me B h) : RowsOk (stateL h.rs) := by
  have hz : (lat h.rs 0).q = 0 := by
    rcases hk.row 0 (by omega) with h1 | h1
    · rw [h1]
    · omega
  have hlen : (stateL h.rs).length ≤ 8 := by
    rw [stateL_filter hk.len.1, List.length_map, show List.range 9 = 0 :: (List.range 8).map (· + 1) from rfl, List.filter_cons_of_neg (by rw [hz]; simp)]
    exact Nat.le_trans (List.length_filter_le _ _) (by simp)
  have hrow : ∀ l ∈ stateL h.rs, 1 ≤ l.q ∧ l.q ≤ 8 ∧ 0 ≤ l.g ∧ l.g ≤ 1099511627776 ∧ 1 ≤ l.u ∧ l.u ≤ 3 := fun l hl => by
    rw [stateL_filter hk.len.1] at hl
    obtain ⟨m, hm, rfl⟩ := List.mem_map.1 hl
    obtain ⟨hm1, hm2⟩ := List.mem_filter.1 hm
    have hm9 := List.mem_range.1 hm1
    have := hk.BM
    rcases hk.row m hm9 with h1 | ⟨h1, h2, h3, h4, h5, h6⟩
    · rw [h1] at hm2; simp at hm2
    · omega
  have hpw : (stateL h.rs).Pairwise fun a b => a.q < b.q := by
    rw [stateL_filter hk.len.1, List.pairwise_map]
    refine List.Pairwise.imp_of_mem (R := (· < ·)) ?_ (List.Pairwise.filter _ List.pairwise_lt_range)
    intro a b ha hb hab
    have key : ∀ m, m ∈ (List.range 9).filter (fun m => decide ((lat h.rs m).q ≠ 0)) → (lat h.rs m).q = m := fun m hm => by
      obtain ⟨hm1, hm2⟩ := List.mem_filter.1 hm
      rcases hk.row m (List.mem_range.1 hm1) with h1 | ⟨_, h2, _⟩
      · rw [h1] at hm2; simp at hm2
      · exact h2
    rw [key a ha, key b hb]; omega
  refine ⟨hlen, fun i hi => hrow _ (lat_mem hi), fun i hi => ?_⟩
  have := List.pairwise_iff_getElem.1 hpw i (i + 1) (by omega) hi (by omega)
  simpa [lat, List.getD_eq_getElem?_getD, hi, show i < (stateL h.rs).length by omega] using this
/-- Timers. -/
def TmOk (g : Gs) : Prop := ∀ m, m < 9 → 0 ≤ g.ts.getD m 0 ∧ g.ts.getD m 0 ≤ 100 ∧ ((lat g.rs m).u = 2 → g.ts.getD m 0 < g.ticks)
theorem tm_step {g : Gs} (hl : g.len9) (htk : 1 ≤ g.ticks) (h : TmOk g) (r : Ln) (hr : 1 ≤ r.q ∧ r.q ≤ 8) : TmOk (mergeStep g r) := by
  intro m hm
  obtain ⟨k, hk⟩ : ∃ k : Nat, r.q = k := ⟨r.q.toNat, by omega⟩
  obtain ⟨h1, h2⟩ := mergeStep_ts hl r hk (by omega)
  obtain ⟨_, h3⟩ := mergeStep_lat hl r hk (by omega)
  have h4 := h m hm
  rw [(mergeStep_head g r).2.1]
  by_cases e : m = k
  · subst e
    rcases h1 with ⟨h5, h6 | h6⟩ | h5
    · rw [h5, h6]; exact h4
    · rw [h5, h6]; exact ⟨h4.1, h4.2.1, fun h => by omega⟩
    · rw [h5]; exact ⟨by omega, by omega, fun _ => by omega⟩
  · rw [h2 m e, h3 m e]; exact h4
theorem tm_merge (ls : List Ln) : ∀ g : Gs, g.len9 → 1 ≤ g.ticks → TmOk g → (∀ l ∈ ls, 1 ≤ l.q ∧ l.q ≤ 8) → TmOk (mergeG g ls) := by
  induction ls with
  | nil => intro g _ _ h _; exact h
  | cons r ls ih =>
    intro g hl htk h hr
    exact ih _ (mergeStep_len hl r) (by rw [(mergeStep_head g r).2.1]; exact htk) (tm_step hl htk h r (hr r (by simp))) fun l hl => hr l (by simp [hl])
theorem GOk.qs {me : Nat} {B : Int} {g : Gs} (h : GOk me B g) : ∀ m, m < 9 → (lat g.rs m).q ≠ 0 → (lat g.rs m).q = m := fun m hm hq => by
  rcases h.row m hm with h1 | h1
  · rw [h1] at hq; exact absurd rfl hq
  · exact h1.2.1
theorem ok_merge {i j : Nat} {B B' : Int} {g h : Gs} (hg : GOk i B g) (hh : GOk j B' h) (hB : B' ≤ B) (hM : B + 1 ≤ 1099511627776) : GOk i (B + 1) (mergeG g (stateL h.rs)) := by
  have hl := merge_lat hg.len hh.len hh.qs
  have hd := mergeG_head (stateL h.rs) g
  have hrow := rows_ok hh
  refine ⟨merge_len hg.len hh.len hh.qs, by rw [hd.1, hg.mine], hg.me1, hg.me8, by rw [hd.2.1]; exact hg.tk0, by rw [hd.2.1]; exact hg.tk1, by have := hg.B0; omega, hM, fun m hm => ?_, ?_, ?_⟩
  · rw [hl m hm]
    have hgm := hg.row m hm
    have hhm := hh.row m hm
    by_cases hz : (lat h.rs m).q ≠ 0
    · rw [if_pos hz]
      have hhm : 1 ≤ m ∧ (lat h.rs m).q = m ∧ 0 ≤ (lat h.rs m).g ∧ (lat h.rs m).g ≤ B' ∧ 1 ≤ (lat h.rs m).u ∧ (lat h.rs m).u ≤ 3 := by
        rcases hhm with h1 | h1
        · rw [h1] at hz; exact absurd rfl hz
        · exact h1
      unfold upd
      split
      · rename_i h1
        rcases hgm with h2 | h2
        · rw [h2] at h1; exact absurd rfl h1.1
        · right; omega
      · split
        · rename_i h1 h2
          right
          dsimp only
          have := hg.mine
          have h0 := hg.B0
          omega
        · right; omega
    · rw [if_neg hz]
      rcases hgm with h1 | h1
      · exact .inl h1
      · right; omega
  · have hme9 : i < 9 := by have := hg.me8; omega
    rw [hl i hme9]
    have ho := hg.own
    have hi1 := hg.me1
    by_cases hz : (lat h.rs i).q ≠ 0
    · rw [if_pos hz]
      have hq := hh.qs i hme9 hz
      unfold upd
      split
      · exact ho
      · split
        · exact ⟨hg.mine, rfl⟩
        · rename_i h1 h2
          refine ⟨hq, ?_⟩
          by_cases h3 : (lat h.rs i).u = 1
          · exact h3
          · exact absurd ⟨by rw [hq, hg.mine], h3⟩ h2
    · rw [if_neg hz]; exact ho
  · have := tm_merge (stateL h.rs) g hg.len hg.tk0 hg.tm fun l hl => by
      obtain ⟨x, hx, rfl⟩ := mem_lat hl
      have := hrow.row x hx
      omega
    exact this
theorem full_merge {i j n : Nat} {B B' : Int} {g h : Gs} (hg : GOk i B g) (hh : GOk j B' h) (fg : Full n g) (fh : Full n h) : Full n (mergeG g (stateL h.rs)) := by
  intro m hm
  rw [merge_lat hg.len hh.len hh.qs m hm]
  have h1 := fg m hm
  have h2 := fh m hm
  by_cases hz : (lat h.rs m).q ≠ 0
  · rw [if_pos hz]
    refine ⟨fun _ => h2.1 hz, fun _ => ?_⟩
    unfold upd
    split
    · rename_i h3; exact h3.1
    · split
      · have := hg.mine; have := hg.me1; dsimp only; omega
      · exact hz
  · rw [if_neg hz]; exact h1
def doubtG (g : Gs) (m : Nat) : Gs :=
  if (m : Int) = g.me ∨ (lat g.rs m).u ≠ 1 then g else { g with rs := g.rs.set m ⟨(lat g.rs m).q, (lat g.rs m).g, 2⟩, ts := g.ts.set m 0 }
theorem doubt_lat {g : Gs} (hl : g.len9) {m : Nat} (hm : m < 9) (x : Nat) : lat (doubtG g m).rs x = if m = x ∧ ¬ ((m : Int) = g.me ∨ (lat g.rs m).u ≠ 1) then ⟨(lat g.rs m).q, (lat g.rs m).g, 2⟩ else lat g.rs x := by
  unfold doubtG
  by_cases h : (m : Int) = g.me ∨ (lat g.rs m).u ≠ 1
  · rw [if_pos h, if_neg (fun h2 => h2.2 h)]
  · rw [if_neg h]
    dsimp only
    rw [lat_set _ _ _ _ (by have := hl.1; omega)]
    by_cases e : m = x
    · rw [if_pos e, if_pos ⟨e, h⟩]
    · rw [if_neg e, if_neg (fun h2 => e h2.1)]
theorem doubt_len {g : Gs} (hl : g.len9) (m : Nat) : (doubtG g m).len9 := by
  unfold doubtG Gs.len9 at *; split
  · exact hl
  · simpa using hl
theorem doubt_head (g : Gs) (m : Nat) : (doubtG g m).me = g.me ∧ (doubtG g m).ticks = g.ticks ∧ (doubtG g m).last = g.last := by
  unfold doubtG; split <;> exact ⟨rfl, rfl, rfl⟩
theorem ok_doubt {i m : Nat} {B : Int} {g : Gs} (hg : GOk i B g) (hm : m < 9) : GOk i B (doubtG g m) := by
  have hd := doubt_head g m
  have hl := doubt_lat hg.len hm
  refine ⟨doubt_len hg.len m, by rw [hd.1, hg.mine], hg.me1, hg.me8, by rw [hd.2.1]; exact hg.tk0, by rw [hd.2.1]; exact hg.tk1, hg.B0, hg.BM, fun x hx => ?_, ?_, fun x hx => ?_⟩
  · rw [hl x]
    split
    · rename_i h1
      rcases hg.row m hm with h2 | h2
      · exfalso; apply h1.2; right; rw [h2]; simp
      · right
        rw [← h1.1]
        dsimp only
        omega
    · exact hg.row x hx
  · rw [hl i]
    split
    · rename_i h1
      exfalso; apply h1.2; left; rw [hg.mine, h1.1]
    · exact hg.own
  · rw [hd.2.1, hl x]
    have ht := hg.tm x hx
    have h0 := hg.tk0
    unfold doubtG
    by_cases h : (m : Int) = g.me ∨ (lat g.rs m).u ≠ 1
    · rw [if_pos h, if_neg (fun h2 => h2.2 h)]; exact ht
    · rw [if_neg h]
      dsimp only
      by_cases e : m = x
      · subst e
        rw [getD_set_same (by have := hg.len.2; omega)]
        exact ⟨by omega, by omega, fun _ => by omega⟩
      · rw [getD_set_far e, if_neg (fun h2 => e h2.1)]; exact ht
theorem full_doubt {i m n : Nat} {B : Int} {g : Gs} (hg : GOk i B g) (fg : Full n g) (hm : m < 9) : Full n (doubtG g m) := by
  intro x hx
  rw [doubt_lat hg.len hm x]
  split
  · rename_i h1
    rw [← h1.1]; exact fg m hm
  · exact fg x hx
theorem ok_tick {i : Nat} {B : Int} {g : Gs} (hg : GOk i B g) : GOk i B (tickG g) := by
  have hd := tick_head g
  refine ⟨tick_len hg.len, by rw [hd.1, hg.mine], hg.me1, hg.me8, by rw [hd.2.1]; exact hg.tk0, by rw [hd.2.1]; exact hg.tk1, hg.B0, hg.BM, fun x hx => ?_, ?_, fun x hx => ?_⟩
  · rw [(tick_row hg.len hx).1]
    split
    · rename_i h1
      rcases hg.row x hx with h2 | h2
      · rw [h2] at h1; exact absurd h1.1 (by simp)
      · right; dsimp only; omega
    · exact hg.row x hx
  · have h9 : i < 9 := by have := hg.me8; omega
    rw [(tick_row hg.len h9).1, if_neg (fun h => by have := hg.own; omega)]
    exact hg.own
  · have ht := hg.tm x hx
    have h0 := hg.tk1
    rw [(tick_row hg.len hx).1, (tick_row hg.len hx).2, hd.2.1]
    by_cases hu : (lat g.rs x).u = 2
    · have := ht.2.2 hu
      rw [if_pos hu]
      by_cases h2 : g.ticks ≤ g.ts.getD x 0 + 1
      · rw [if_pos ⟨hu, h2⟩]; exact ⟨by omega, by omega, fun h => by simp at h⟩
      · rw [if_neg (fun h3 => h2 h3.2)]; exact ⟨by omega, by omega, fun _ => by omega⟩
    · rw [if_neg hu, if_neg (fun h => hu h.1)]; exact ht
theorem full_tick {i n : Nat} {B : Int} {g : Gs} (hg : GOk i B g) (fg : Full n g) : Full n (tickG g) := by
  intro x hx
  rw [(tick_row hg.len hx).1]
  split
  · exact fg x hx
  · exact fg x hx
theorem GOk.more {i : Nat} {B B' : Int} {g : Gs} (h : GOk i B g) (hB : B ≤ B') (hM : B' ≤ 1099511627776) : GOk i B' g :=
  ⟨h.len, h.mine, h.me1, h.me8, h.tk0, h.tk1, by have := h.B0; omega, hM, fun m hm => by
    rcases h.row m hm with h1 | h1
    · exact .inl h1
    · right; omega, h.own, h.tm⟩
end Go
