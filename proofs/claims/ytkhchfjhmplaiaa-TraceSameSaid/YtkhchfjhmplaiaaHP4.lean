import Derived.Test.YtkhchfjhmplaiaaHP1
namespace Go
open Go.RowKit
theorem lat_snoc (h : List Ln) (e : Ln) (i : Nat) : lat (h ++ [e]) i = if i = h.length then e else lat h i := by
  simp only [lat, List.getD_eq_getElem?_getD]
  by_cases h1 : i < h.length
  · rw [if_neg (by omega), List.getElem?_append_left h1]
  · by_cases h2 : i = h.length
    · subst h2; simp
    · rw [if_neg h2, List.getElem?_eq_none (by simp; omega), List.getElem?_eq_none (by omega)]
/-- One number of the plan: the next event, and the messages on the way. -/
def histStep (s : List Ln × List Int) (x : Int) : List Ln × List Int :=
  if restI x 8 ≤ 2 then (s.1 ++ [⟨restI (wrap64 (x.tdiv 8)) 4, 2, s.1.length⟩], s.2 ++ [(s.1.length : Int)])
  else if restI x 8 ≤ 6 ∧ 0 < s.2.length then (s.1 ++ [⟨restI (wrap64 (x.tdiv 8)) 4, 3, s.2.getD (restI (wrap64 (x.tdiv 32)) s.2.length).toNat 0⟩], s.2.eraseIdx (restI (wrap64 (x.tdiv 32)) s.2.length).toNat)
  else (s.1 ++ [⟨restI (wrap64 (x.tdiv 8)) 4, 1, 0⟩], s.2)
def histS (xs : List Int) : List Ln × List Int := xs.foldl histStep ([], [])
def hist (xs : List Int) : List Ln := (histS (xs.take 60)).1
structure HInv (s : List Ln × List Int) : Prop where
  ok : HOk s.1
  own : ∀ i, i < s.1.length → (lat s.1 i).g = 2 → (lat s.1 i).u = i
  nodup : s.2.Nodup
  way : ∀ m ∈ s.2, ∃ j : Nat, m = j ∧ j < s.1.length ∧ (lat s.1 j).g = 2 ∧ ∀ i, i < s.1.length → (lat s.1 i).g = 3 → (lat s.1 i).u ≠ m
theorem HInv.nil : HInv ([], []) := ⟨⟨by simp, fun i h => by simp at h, fun i j _ h => by simp at h, fun i j _ h => by simp at h, fun i h => by simp at h⟩, fun i h => by simp at h, by simp, by simp⟩
/-- An event is added. -/
theorem HOk.snoc {h : List Ln} (hk : HOk h) {e : Ln} (hl : h.length < 200) (he : 0 ≤ e.q ∧ e.q < 8 ∧ 1 ≤ e.g ∧ e.g ≤ 3 ∧ 0 ≤ e.u ∧ e.u ≤ 999)
    (hs : e.g = 2 → ∀ i, i < h.length → (lat h i).g = 2 → (lat h i).u ≠ e.u) (ht : e.g = 3 → (∀ i, i < h.length → (lat h i).g = 3 → (lat h i).u ≠ e.u) ∧ ∃ j, j < h.length ∧ (lat h j).g = 2 ∧ (lat h j).u = e.u) : HOk (h ++ [e]) := by
  refine ⟨by simp; omega, fun i hi => ?_, fun i j hij hj h1 h2 => ?_, fun i j hij hj h1 h2 => ?_, fun i hi h1 => ?_⟩
  · rw [lat_snoc]
    by_cases e1 : i = h.length
    · rw [if_pos e1]; exact he
    · rw [if_neg e1]; exact hk.ev i (by simp at hi; omega)
  · simp at hj
    rw [lat_snoc, if_neg (by omega)] at h1 ⊢
    rw [lat_snoc] at h2 ⊢
    by_cases e1 : j = h.length
    · rw [if_pos e1] at h2 ⊢; exact hs h2 i (by omega) h1
    · rw [if_neg e1] at h2 ⊢; exact hk.sends i j hij (by omega) h1 h2
  · simp at hj
    rw [lat_snoc, if_neg (by omega)] at h1 ⊢
    rw [lat_snoc] at h2 ⊢
    by_cases e1 : j = h.length
    · rw [if_pos e1] at h2 ⊢; exact (ht h2).1 i (by omega) h1
    · rw [if_neg e1] at h2 ⊢; exact hk.takes i j hij (by omega) h1 h2
  · rw [lat_snoc] at h1
    by_cases e1 : i = h.length
    · rw [if_pos e1] at h1
      obtain ⟨j, h2, h3, h4⟩ := (ht h1).2
      refine ⟨j, by omega, ?_⟩
      rw [lat_snoc, if_neg (by omega), lat_snoc, if_pos e1]; exact ⟨h3, h4⟩
    · rw [if_neg e1] at h1
      obtain ⟨j, h2, h3, h4⟩ := hk.sent i (by simp at hi; omega) h1
      refine ⟨j, h2, ?_⟩
      rw [lat_snoc, if_neg (by simp at hi; omega), lat_snoc, if_neg e1]; exact ⟨h3, h4⟩
theorem restI4 (x : Int) : 0 ≤ restI x 4 ∧ restI x 4 < 8 := ⟨restI_lo x (by omega), by have := restI_hi x (show (0 : Int) < 4 by omega); omega⟩
theorem at_nat (x : Int) {n : Nat} (h : 0 < n) : ∃ q : Nat, restI x n = q ∧ q < n := by
  have h0 := restI_lo x (show (0 : Int) < n by omega)
  have h1 := restI_hi x (show (0 : Int) < n by omega)
  exact ⟨(restI x n).toNat, by omega, by omega⟩
theorem HInv.step {s : List Ln × List Int} (h : HInv s) (hl : s.1.length < 200) (x : Int) : HInv (histStep s x) := by
  obtain ⟨evs, way⟩ := s
  obtain ⟨h0, h1⟩ := restI4 (wrap64 (x.tdiv 8))
  unfold histStep
  dsimp only at hl ⊢
  generalize restI (wrap64 (x.tdiv 8)) 4 = pl at *
  by_cases c1 : restI x 8 ≤ 2
  · rw [if_pos c1]
    refine ⟨h.ok.snoc hl ⟨h0, h1, by dsimp only; omega, by dsimp only; omega, by dsimp only; omega, by dsimp only; omega⟩ (fun _ i hi hg => ?_) (fun hg => by simp at hg), fun i hi hg => ?_, ?_, fun m hm => ?_⟩
    · have := h.own i hi hg; dsimp only at this hi ⊢; omega
    · dsimp only at hi hg ⊢
      rw [lat_snoc] at hg ⊢
      by_cases e1 : i = evs.length
      · rw [if_pos e1]; dsimp only; omega
      · rw [if_neg e1] at hg ⊢; exact h.own i (by simp at hi; dsimp only; omega) hg
    · refine List.nodup_append.2 ⟨h.nodup, by simp, fun a ha b hb => ?_⟩
      simp at hb
      obtain ⟨j, e1, e2, _⟩ := h.way a ha
      dsimp only at e2
      omega
    · dsimp only at hm ⊢
      rcases List.mem_append.1 hm with hm | hm
      · obtain ⟨j, e1, e2, e3, e4⟩ := h.way m hm
        dsimp only at e2 e3 e4
        refine ⟨j, e1, by simp; omega, by rw [lat_snoc, if_neg (by omega)]; exact e3, fun i hi hg => ?_⟩
        rw [lat_snoc] at hg ⊢
        by_cases e5 : i = evs.length
        · rw [if_pos e5] at hg; simp at hg
        · rw [if_neg e5] at hg ⊢; exact e4 i (by simp at hi; omega) hg
      · simp at hm
        refine ⟨evs.length, hm, by simp, by rw [lat_snoc, if_pos rfl], fun i hi hg => ?_⟩
        rw [lat_snoc] at hg ⊢
        by_cases e5 : i = evs.length
        · rw [if_pos e5] at hg; simp at hg
        · rw [if_neg e5] at hg ⊢
          have hlt : i < evs.length := by simp at hi; omega
          obtain ⟨j, e1, e2, e3⟩ := h.ok.sent i hlt hg
          have := h.own j (by dsimp only at e1 ⊢; omega) e2
          dsimp only at this e3
          omega
  · rw [if_neg c1]
    by_cases c2 : restI x 8 ≤ 6 ∧ 0 < way.length
    · rw [if_pos c2]
      obtain ⟨q, hq, hql⟩ := at_nat (wrap64 (x.tdiv 32)) c2.2
      rw [hq, show (q : Int).toNat = q from rfl]
      have hmem : way.getD q 0 ∈ way := by rw [List.getD_eq_getElem?_getD, List.getElem?_eq_getElem hql]; exact List.getElem_mem hql
      have hget : way.getD q 0 = way[q] := by rw [List.getD_eq_getElem?_getD, List.getElem?_eq_getElem hql]; rfl
      obtain ⟨j, e1, e2, e3, e4⟩ := h.way _ hmem
      dsimp only at e2 e3 e4
      have hu := h.own j e2 e3
      dsimp only at hu
      refine ⟨h.ok.snoc hl ⟨h0, h1, by dsimp only; omega, by dsimp only; omega, by dsimp only; omega, by dsimp only; omega⟩ (fun hg => by simp at hg) (fun _ => ⟨e4, j, e2, e3, by rw [hu, e1]⟩), fun i hi hg => ?_, (List.eraseIdx_sublist way q).nodup h.nodup, fun m hm => ?_⟩
      · dsimp only at hi hg ⊢
        rw [lat_snoc] at hg ⊢
        by_cases e1 : i = evs.length
        · rw [if_pos e1] at hg; simp at hg
        · rw [if_neg e1] at hg ⊢; exact h.own i (by simp at hi; dsimp only; omega) hg
      · dsimp only at hm ⊢
        have hne : way.getD q 0 ≠ m := by
          rw [hget]
          rintro rfl
          obtain ⟨i, hi, hne, hge⟩ := List.mem_eraseIdx_iff_getElem.1 hm
          exact hne ((List.getElem_inj h.nodup).1 hge)
        obtain ⟨j', e1', e2', e3', e4'⟩ := h.way m (List.mem_of_mem_eraseIdx hm)
        dsimp only at e2' e3' e4'
        refine ⟨j', e1', by simp; omega, by rw [lat_snoc, if_neg (by omega)]; exact e3', fun i hi hg => ?_⟩
        rw [lat_snoc] at hg ⊢
        by_cases e5 : i = evs.length
        · rw [if_pos e5]; exact hne
        · rw [if_neg e5] at hg ⊢; exact e4' i (by simp at hi; omega) hg
    · rw [if_neg c2]
      refine ⟨h.ok.snoc hl ⟨h0, h1, by dsimp only; omega, by dsimp only; omega, by dsimp only; omega, by dsimp only; omega⟩ (fun hg => by simp at hg) (fun hg => by simp at hg), fun i hi hg => ?_, h.nodup, fun m hm => ?_⟩
      · dsimp only at hi hg ⊢
        rw [lat_snoc] at hg ⊢
        by_cases e1 : i = evs.length
        · rw [if_pos e1] at hg; simp at hg
        · rw [if_neg e1] at hg ⊢; exact h.own i (by simp at hi; dsimp only; omega) hg
      · obtain ⟨j, e1, e2, e3, e4⟩ := h.way m hm
        dsimp only at e2 e3 e4 ⊢
        refine ⟨j, e1, by simp; omega, by rw [lat_snoc, if_neg (by omega)]; exact e3, fun i hi hg => ?_⟩
        rw [lat_snoc] at hg ⊢
        by_cases e5 : i = evs.length
        · rw [if_pos e5] at hg; simp at hg
        · rw [if_neg e5] at hg ⊢; exact e4 i (by simp at hi; omega) hg
theorem snocInd {α : Type _} {P : List α → Prop} (xs : List α) (nil : P []) (snoc : ∀ xs x, P xs → P (xs ++ [x])) : P xs := by
  have : ∀ ys : List α, P ys.reverse := fun ys => by
    induction ys with
    | nil => exact nil
    | cons y ys ih => rw [List.reverse_cons]; exact snoc _ _ ih
  have := this xs.reverse
  rwa [List.reverse_reverse] at this
theorem histStep_len (s : List Ln × List Int) (x : Int) : (histStep s x).1.length = s.1.length + 1 := by
  unfold histStep; split
  · simp
  · split <;> simp
theorem histStep_way (s : List Ln × List Int) (x : Int) : (histStep s x).2.length ≤ s.2.length + 1 := by
  unfold histStep; split
  · simp
  · split
    · dsimp only; have := List.length_eraseIdx_le s.2 (restI (wrap64 (x.tdiv 32)) s.2.length).toNat; omega
    · simp
theorem histS_snoc (xs : List Int) (x : Int) : histS (xs ++ [x]) = histStep (histS xs) x := by simp [histS, List.foldl_append]
theorem histS_len (xs : List Int) : (histS xs).1.length = xs.length ∧ (histS xs).2.length ≤ xs.length := by
  induction xs using snocInd with
  | nil => exact ⟨rfl, Nat.le_refl _⟩
  | snoc xs x ih => rw [histS_snoc, histStep_len]; have := histStep_way (histS xs) x; simp; omega
theorem histS_inv (xs : List Int) (hl : xs.length ≤ 60) : HInv (histS xs) := by
  induction xs using snocInd with
  | nil => exact HInv.nil
  | snoc xs x ih =>
    simp at hl
    rw [histS_snoc]
    exact (ih (by omega)).step (by rw [(histS_len xs).1]; omega) x
theorem hist_len (xs : List Int) : (hist xs).length = min 60 xs.length := by rw [hist, (histS_len _).1]; simp
theorem hist_inv (xs : List Int) : HInv (histS (xs.take 60)) := histS_inv _ (by simp; omega)
end Go
