import Derived.Test.YtmkdppbnmogmlaaGP8
namespace Go
open Go.RowKit
def mergeAt (gs : List Gs) (i j : Nat) : List Gs := gs.set i (mergeG (gat gs i) (stateL (gat gs j).rs))
/-- What node i says of node m (by numbers from 0). -/
def vw (gs : List Gs) (i m : Nat) : Ln := lat (gat gs i).rs (m + 1)
theorem mergeAt_ok {n i j : Nat} {B : Int} {gs : List Gs} (h : NetOk n B gs) (hi : i < n) (hj : j < n) (hM : B + 1 ≤ 1099511627776) : NetOk n (B + 1) (mergeAt gs i j) := by
  have hm := h.more (B' := B + 1) (by omega) hM
  exact hm.put hi ⟨ok_merge (h.ok i hi).1 (h.ok j hj).1 (Int.le_refl _) hM, full_merge (h.ok i hi).1 (h.ok j hj).1 (h.ok i hi).2 (h.ok j hj).2⟩
theorem vw_q {n i m : Nat} {B : Int} {gs : List Gs} (h : NetOk n B gs) (hi : i < n) (hm : m < n) : (vw gs i m).q = (m : Int) + 1 := by
  have h8 := h.hi
  have := (h.ok i hi).1.qs (m + 1) (by omega) (((h.ok i hi).2 (m + 1) (by omega)).2 (by omega))
  unfold vw; omega
theorem vw_own {n m : Nat} {B : Int} {gs : List Gs} (h : NetOk n B gs) (hm : m < n) : (vw gs m m).u = 1 := (h.ok m hm).1.own.2
theorem vw_bd {n i m : Nat} {B : Int} {gs : List Gs} (h : NetOk n B gs) (hi : i < n) (hm : m < n) : 0 ≤ (vw gs i m).g ∧ (vw gs i m).g ≤ B ∧ 1 ≤ (vw gs i m).u := by
  have h8 := h.hi
  have hq := vw_q h hi hm
  rcases (h.ok i hi).1.row (m + 1) (by omega) with h1 | h1
  · unfold vw at hq; rw [h1] at hq; dsimp only at hq; omega
  · unfold vw; omega
theorem vw_at {n i j : Nat} {B : Int} {gs : List Gs} (h : NetOk n B gs) (hi : i < n) (hj : j < n) (x m : Nat) (hm : m < n) :
    vw (mergeAt gs i j) x m = if i = x then upd ((i : Int) + 1) (vw gs i m) (vw gs j m) else vw gs x m := by
  have h8 := h.hi
  unfold vw mergeAt
  rw [gat_set _ _ _ _ (by rw [h.len]; exact hi)]
  by_cases e : i = x
  · rw [if_pos e, if_pos e, merge_lat (h.ok i hi).1.len (h.ok j hj).1.len (h.ok j hj).1.qs _ (by omega), if_pos (((h.ok j hj).2 (m + 1) (by omega)).2 (by omega)), (h.ok i hi).1.mine]
    simp
  · rw [if_neg e, if_neg e]
theorem newer_iff (a b : Ln) : newerB a b = false ↔ ¬ b.g < a.g ∧ (a.g = b.g → a.u ≤ b.u) := by
  unfold newerB
  simp only [Bool.or_eq_false_iff, Bool.and_eq_false_iff, decide_eq_false_iff_not]
  omega
/-- What a row becomes: it, or the other one, or, of one's own, a later turn. -/
theorem upd_cases (me : Int) (old r : Ln) (h0 : old.q ≠ 0) : (newerB r old = false ∧ upd me old r = old) ∨ (newerB r old = true ∧ r.q = me ∧ r.u ≠ 1 ∧ upd me old r = ⟨me, min (r.g + 1) 1099511627776, 1⟩) ∨ (newerB r old = true ∧ ¬ (r.q = me ∧ r.u ≠ 1) ∧ upd me old r = r) := by
  unfold upd
  cases hn : newerB r old with
  | false => left; exact ⟨rfl, by rw [if_pos ⟨h0, rfl⟩]⟩
  | true =>
    right
    rw [if_neg (fun h => by cases h.2)]
    by_cases h : r.q = me ∧ r.u ≠ 1
    · left; exact ⟨rfl, h.1, h.2, by rw [if_pos h]⟩
    · right; exact ⟨rfl, h, by rw [if_neg h]⟩
structure Exch (r i j : Nat) (B : Int) (gs : List Gs) : Prop where
  ok : NetOk 4 B gs
  top : ∀ m, m < 4 → ∀ x, x < 4 → (1 ≤ r ∨ m < i ∨ (m = i ∧ x < j)) → newerB (vw gs x m) (vw gs m m) = false
  eq : ∀ m, m < 4 → ∀ x, x < 4 → (2 ≤ r ∨ (r = 1 ∧ (x < i ∨ (x = i ∧ m < j)))) → vw gs x m = vw gs m m
theorem exch_start {B : Int} {gs : List Gs} (h : NetOk 4 B gs) : Exch 0 0 0 B gs := ⟨h, fun m _ x _ h => by omega, fun m _ x _ h => by omega⟩
theorem exch_j {r i : Nat} {B : Int} {gs : List Gs} (h : Exch r i 4 B gs) : Exch r (i + 1) 0 B gs :=
  ⟨h.ok, fun m hm x hx hd => h.top m hm x hx (by omega), fun m hm x hx hd => h.eq m hm x hx (by omega)⟩
theorem exch_i {r : Nat} {B : Int} {gs : List Gs} (h : Exch r 4 0 B gs) : Exch (r + 1) 0 0 B gs :=
  ⟨h.ok, fun m hm x hx hd => h.top m hm x hx (by omega), fun m hm x hx hd => h.eq m hm x hx (by omega)⟩
theorem exch_step {r i j : Nat} {B : Int} {gs : List Gs} (h : Exch r i j B gs) (hi : i < 4) (hj : j < 4) (hM : B + 1 ≤ 1099511627776) : Exch r i (j + 1) (B + 1) (mergeAt gs i j) := by
  have hva := vw_at h.ok hi hj
  have own_keep : ∀ m, m < 4 → (i ≠ m ∨ newerB (vw gs j m) (vw gs m m) = false) → vw (mergeAt gs i j) m m = vw gs m m := fun m hm hc => by
    rw [hva m m hm]
    by_cases e : i = m
    · rw [if_pos e]
      subst e
      have hn : newerB (vw gs j i) (vw gs i i) = false := by
        rcases hc with h1 | h1
        · exact absurd rfl h1
        · exact h1
      rcases upd_cases ((i : Int) + 1) (vw gs i i) (vw gs j i) (by rw [vw_q h.ok hi hi]; omega) with ⟨_, h2⟩ | ⟨h2, _⟩ | ⟨h2, _⟩
      · exact h2
      · rw [hn] at h2; cases h2
      · rw [hn] at h2; cases h2
    · rw [if_neg e]
  have top_keep : ∀ m, m < 4 → (∀ x, x < 4 → newerB (vw gs x m) (vw gs m m) = false) → ∀ x, x < 4 → newerB (vw (mergeAt gs i j) x m) (vw (mergeAt gs i j) m m) = false := fun m hm ha x hx => by
    rw [own_keep m hm (.inr (ha j hj)), hva x m hm]
    by_cases e : i = x
    · rw [if_pos e]
      rcases upd_cases ((i : Int) + 1) (vw gs i m) (vw gs j m) (by rw [vw_q h.ok hi hm]; omega) with ⟨_, h2⟩ | ⟨h1, h2, h3, _⟩ | ⟨_, _, h2⟩
      · rw [h2]; exact ha i hi
      · have hq := vw_q h.ok hj hm
        have him : i = m := by omega
        subst him
        rw [ha j hj] at h1; cases h1
      · rw [h2]; exact ha j hj
    · rw [if_neg e]; exact ha x hx
  refine ⟨mergeAt_ok h.ok hi hj hM, fun m hm x hx hd => ?_, fun m hm x hx hd => ?_⟩
  · by_cases hfull : 1 ≤ r ∨ m < i
    · exact top_keep m hm (fun x hx => h.top m hm x hx (by omega)) x hx
    · obtain rfl : m = i := by omega
      by_cases e : m = x
      · subst e; exact newerB_refl _
      · rw [hva x m hm, if_neg e, hva m m hm, if_pos rfl]
        have hbj := vw_bd h.ok hj hm
        have hbx := vw_bd h.ok hx hm
        have hbo := vw_bd h.ok hm hm
        have huo := vw_own h.ok hm
        rw [newer_iff]
        rcases upd_cases ((m : Int) + 1) (vw gs m m) (vw gs j m) (by rw [vw_q h.ok hm hm]; omega) with ⟨h1, h2⟩ | ⟨h1, _, h3, h2⟩ | ⟨h1, h3, h2⟩
        · rw [h2]
          by_cases hxj : x = j
          · subst hxj; exact (newer_iff _ _).1 h1
          · exact (newer_iff _ _).1 (h.top m hm x hx (by omega))
        · rw [h2]
          have hn : ¬ newerB (vw gs j m) (vw gs m m) = false := by rw [h1]; simp
          rw [newer_iff] at hn
          dsimp only
          by_cases hxj : x = j
          · subst hxj; omega
          · have h4 := (newer_iff _ _).1 (h.top m hm x hx (by omega))
            omega
        · rw [h2]
          have hn : ¬ newerB (vw gs j m) (vw gs m m) = false := by rw [h1]; simp
          rw [newer_iff] at hn
          by_cases hxj : x = j
          · subst hxj; omega
          · have h4 := (newer_iff _ _).1 (h.top m hm x hx (by omega))
            omega
  · have hr : 1 ≤ r := by omega
    have ha : ∀ x, x < 4 → newerB (vw gs x m) (vw gs m m) = false := fun x hx => h.top m hm x hx (.inl hr)
    rw [own_keep m hm (.inr (ha j hj)), hva x m hm]
    by_cases e : i = x
    · rw [if_pos e]
      subst e
      have hqm := vw_q h.ok hm hm
      have huo := vw_own h.ok hm
      by_cases hold : 2 ≤ r ∨ m < j
      · have h5 := h.eq m hm i hi (by omega)
        rw [h5]
        rcases upd_cases ((i : Int) + 1) (vw gs m m) (vw gs j m) (by rw [hqm]; omega) with ⟨_, h2⟩ | ⟨h1, _⟩ | ⟨h1, _⟩
        · exact h2
        · rw [ha j hj] at h1; cases h1
        · rw [ha j hj] at h1; cases h1
      · obtain rfl : m = j := by omega
        rcases upd_cases ((i : Int) + 1) (vw gs i m) (vw gs m m) (by rw [vw_q h.ok hi hm]; omega) with ⟨h1, h2⟩ | ⟨_, _, h3, _⟩ | ⟨_, _, h2⟩
        · rw [h2]
          have e1 := (newer_iff _ _).1 h1
          have e2 := (newer_iff _ _).1 (ha i hi)
          have q1 := vw_q h.ok hi hm
          generalize vw gs i m = X at *
          generalize vw gs m m = Y at *
          obtain ⟨a, b, c⟩ := X
          obtain ⟨a', b', c'⟩ := Y
          dsimp only at *
          simp only [Ln.mk.injEq]
          omega
        · exact absurd huo h3
        · exact h2
    · rw [if_neg e]
      exact h.eq m hm x hx (by omega)
theorem exch_end {r : Nat} {B : Int} {gs : List Gs} (h : Exch r 0 0 B gs) (hr : 2 ≤ r) (i : Nat) (hi : i < 4) : stateL (gat gs i).rs = stateL (gat gs 0).rs ∧ ∀ l ∈ stateL (gat gs i).rs, l.u = 1 := by
  have e1 := full_state (h.ok.ok i hi).1.len (h.ok.ok i hi).2 (by omega)
  have e2 := full_state (h.ok.ok 0 (by omega)).1.len (h.ok.ok 0 (by omega)).2 (by omega)
  have key : ∀ m, m < 4 → lat (gat gs i).rs (m + 1) = vw gs m m := fun m hm => h.eq m hm i hi (.inl hr)
  have key0 : ∀ m, m < 4 → lat (gat gs 0).rs (m + 1) = vw gs m m := fun m hm => h.eq m hm 0 (by omega) (.inl hr)
  refine ⟨?_, fun l hl => ?_⟩
  · rw [e1, e2]
    exact List.map_congr_left fun m hm => by rw [key m (List.mem_range.1 hm), key0 m (List.mem_range.1 hm)]
  · rw [e1] at hl
    obtain ⟨m, hm, rfl⟩ := List.mem_map.1 hl
    rw [key m (List.mem_range.1 hm)]
    exact vw_own h.ok (List.mem_range.1 hm)
end Go
