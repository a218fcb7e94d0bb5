import Derived.Test.YtmkdppbnmogmlaaGP1
namespace Go
def rowF (n m : Nat) : Ln := if 1 ≤ m ∧ m ≤ n then ⟨(m : Int), 0, 1⟩ else ⟨0, 0, 0⟩
def startG (me ticks : Int) (n : Nat) : Gs := ⟨me, ticks, 0, (List.range 9).map (rowF n), List.replicate 9 0⟩
theorem rowF_q (n m : Nat) (_ : m < 9) (h : (rowF n m).q ≠ 0) : (rowF n m).q = m := by
  unfold rowF at *
  split at h
  · rename_i h1; rw [if_pos h1]
  · exact absurd rfl h
theorem allRows_by (n : Nat) (hn : n ≤ 8) : allRows n = ((List.range 9).map (rowF n)).filter fun l => decide (l.q ≠ 0) := by
  rcases (by omega : n = 0 ∨ n = 1 ∨ n = 2 ∨ n = 3 ∨ n = 4 ∨ n = 5 ∨ n = 6 ∨ n = 7 ∨ n = 8) with rfl | rfl | rfl | rfl | rfl | rfl | rfl | rfl | rfl <;> rfl
theorem mergeG_ts0 (ls : List Ln) : ∀ g : Gs, g.ts = List.replicate 9 0 → (mergeG g ls).ts = List.replicate 9 0 := by
  induction ls with
  | nil => intro g h; exact h
  | cons r ls ih =>
    intro g h
    refine ih _ ?_
    unfold mergeStep
    split
    · exact h
    · split
      · exact h
      · dsimp only
        rw [h]
        refine List.ext_getElem (by simp) fun i h1 h2 => ?_
        simp only [List.getElem_set, List.getElem_replicate]
        split <;> rfl
theorem begin_eq (n i : Nat) (ticks : Int) (hn : n ≤ 8) (hi : i < n) : mergeG (newG ((i : Int) + 1) ticks (i + 1)) (allRows n) = startG ((i : Int) + 1) ticks n := by
  have hl : (newG ((i : Int) + 1) ticks (i + 1)).len9 := ⟨by simp [newG], by simp [newG]⟩
  have hh := mergeG_head (allRows n) (newG ((i : Int) + 1) ticks (i + 1))
  have ht := mergeG_ts0 (allRows n) (newG ((i : Int) + 1) ticks (i + 1)) rfl
  have hb := merge_by (fun m hm h => rowF_q n m hm h) 9 (Nat.le_refl _) _ hl
  rw [← allRows_by n hn] at hb
  have hrs : (mergeG (newG ((i : Int) + 1) ticks (i + 1)) (allRows n)).rs = (List.range 9).map (rowF n) := by
    refine lat_ext (by rw [hb.1.1]; simp) fun m hm => ?_
    rw [hb.1.1] at hm
    have e2 : lat ((List.range 9).map (rowF n)) m = rowF n m := by simp [lat, List.getD_eq_getElem?_getD, hm]
    rw [hb.2 m, e2]
    have e3 : lat (newG ((i : Int) + 1) ticks (i + 1)).rs m = if i + 1 = m then ⟨(i : Int) + 1, 0, 1⟩ else ⟨0, 0, 0⟩ := by
      rw [newG, lat_set _ _ _ _ (by simp; omega)]
      by_cases e : i + 1 = m
      · rw [if_pos e, if_pos e]
      · rw [if_neg e, if_neg e, lat, List.getD_eq_getElem?_getD, List.getElem?_replicate, if_pos hm]; rfl
    rw [e3]
    by_cases hmn : 1 ≤ m ∧ m ≤ n
    · have e4 : rowF n m = ⟨(m : Int), 0, 1⟩ := by rw [rowF, if_pos hmn]
      rw [e4, if_pos ⟨hm, by simp; omega⟩]
      unfold upd
      by_cases e : i + 1 = m
      · rw [if_pos e, if_pos ⟨by dsimp only; omega, by simp [newerB]⟩]
        rw [← e]; simp
      · rw [if_neg e, if_neg (fun h => h.1 rfl), if_neg (fun h => h.2 rfl)]
    · have e4 : rowF n m = ⟨0, 0, 0⟩ := by rw [rowF, if_neg hmn]
      rw [e4, if_neg (fun h => h.2 rfl), if_neg (by omega)]
  generalize mergeG (newG ((i : Int) + 1) ticks (i + 1)) (allRows n) = g at *
  obtain ⟨a, b, c, d, e⟩ := g
  obtain ⟨h1, h2, h3⟩ := hh
  dsimp only at *
  subst h1 h2 h3 ht hrs
  rfl
theorem startG_lat (me ticks : Int) (n m : Nat) (hm : m < 9) : lat (startG me ticks n).rs m = rowF n m := by simp [startG, lat, List.getD_eq_getElem?_getD, hm]
theorem startG_ts (me ticks : Int) (n m : Nat) : (startG me ticks n).ts.getD m 0 = 0 := by
  simp only [startG, List.getD_eq_getElem?_getD, List.getElem?_replicate]; split <;> rfl
theorem startG_ok (i n : Nat) (ticks : Int) (hn : n ≤ 8) (hi : i < n) (t1 : 1 ≤ ticks) (t2 : ticks ≤ 100) : GOk (i + 1) 0 (startG ((i : Int) + 1) ticks n) ∧ Full n (startG ((i : Int) + 1) ticks n) := by
  refine ⟨⟨⟨by simp [startG], by simp [startG]⟩, by simp [startG], by omega, by omega, t1, t2, by omega, by omega, fun m hm => ?_, ?_, fun m hm => ?_⟩, fun m hm => ?_⟩
  · rw [startG_lat _ _ _ _ hm, rowF]
    split
    · rename_i h; right; dsimp only; omega
    · exact .inl rfl
  · rw [startG_lat _ _ _ _ (by omega), rowF, if_pos (by omega)]; simp
  · rw [startG_ts, startG_lat _ _ _ _ hm, rowF]
    refine ⟨by omega, by omega, fun h => ?_⟩
    split at h <;> simp at h
  · rw [startG_lat _ _ _ _ hm, rowF]
    split
    · rename_i h; simp; omega
    · rename_i h; simp; omega
end Go
