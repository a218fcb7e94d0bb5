import Derived.Test.YtmkdppbnmogmlaaGP5
namespace Go
open Go.RowKit
theorem full_take {g : Gs} {n : Nat} (hl : g.len9) (hf : Full n g) : ∀ k, k ≤ 9 → stateL (g.rs.take k) = (List.range (min (k - 1) n)).map fun i => lat g.rs (i + 1) := by
  intro k
  induction k with
  | zero => intro _; simp [stateL]
  | succ k ih =>
    intro hk
    rw [stateL_snoc g.rs k (by have := hl.1; omega), ih (by omega)]
    have hf := hf k (by omega)
    by_cases hq : (lat g.rs k).q ≠ 0
    · obtain ⟨h1, h2⟩ := hf.1 hq
      rw [if_pos hq, show min (k - 1) n = k - 1 by omega, show min (k + 1 - 1) n = (k - 1) + 1 by omega, List.range_succ, List.map_append]
      congr 1
      simp [show k - 1 + 1 = k by omega]
    · rw [if_neg hq]
      have : ¬ (1 ≤ k ∧ k ≤ n) := fun h => hq (hf.2 h)
      rw [show min (k - 1) n = min (k + 1 - 1) n by omega]
theorem full_state {g : Gs} {n : Nat} (hl : g.len9) (hf : Full n g) (hn : n ≤ 8) : stateL g.rs = (List.range n).map fun i => lat g.rs (i + 1) := by
  have := full_take hl hf 9 (Nat.le_refl _)
  rw [List.take_of_length_le (by have := hl.1; omega), show min (9 - 1) n = n by omega] at this
  exact this
theorem full_len {g : Gs} {n : Nat} (hl : g.len9) (hf : Full n g) (hn : n ≤ 8) : (stateL g.rs).length = n := by rw [full_state hl hf hn]; simp
theorem full_lat {g : Gs} {n : Nat} (hl : g.len9) (hf : Full n g) (hn : n ≤ 8) {i : Nat} (hi : i < n) : lat (stateL g.rs) i = lat g.rs (i + 1) := by
  rw [full_state hl hf hn]; simp [lat, List.getD_eq_getElem?_getD, hi]
/-- More is known. -/
def Grown (a b : Ln) : Prop := b.q = a.q ∧ (a.g < b.g ∨ (a.g = b.g ∧ a.u ≤ b.u))
theorem Grown.refl (a : Ln) : Grown a a := ⟨rfl, .inr ⟨rfl, Int.le_refl _⟩⟩
theorem upd_grown {me B : Int} {old r : Ln} (hq : old.q = r.q) (h0 : old.q ≠ 0) (hB : r.g ≤ B) (hM : B + 1 ≤ 1099511627776) : Grown old (upd me old r) := by
  unfold upd
  split
  · exact Grown.refl _
  · rename_i h1
    have hnew : newerB r old = true := by
      cases h : newerB r old with
      | true => rfl
      | false => exact absurd ⟨h0, h⟩ h1
    unfold newerB at hnew
    simp only [Bool.or_eq_true, Bool.and_eq_true, decide_eq_true_eq] at hnew
    split
    · rename_i h2
      refine ⟨by dsimp only; rw [hq, h2.1], .inl ?_⟩
      dsimp only
      omega
    · refine ⟨hq.symm, ?_⟩
      omega
theorem chat_grown {n : Nat} {B : Int} {gs : List Gs} (h : NetOk n B gs) (hn : 0 < n) (k : Int) (hM : B + 1 ≤ 1099511627776) : ∀ x, x < n → ∀ m, m < n → Grown (lat (gat gs x).rs (m + 1)) (lat (gat (chatStep gs k) x).rs (m + 1)) := by
  intro x hx m hm
  have hi := (rest_lt (k := wrap64 (k.tdiv 8)) hn).1
  have hj := (rest_lt (k := wrap64 (k.tdiv 64)) hn).1
  have hlen := h.len
  unfold chatStep
  rw [hlen]
  dsimp only
  generalize (restI (wrap64 (k.tdiv 8)) n).toNat = i at *
  generalize (restI (wrap64 (k.tdiv 64)) n).toNat = j at *
  have h8 := h.hi
  have hset : ∀ g, Grown (lat (gat gs i).rs (m + 1)) (lat g.rs (m + 1)) → Grown (lat (gat gs x).rs (m + 1)) (lat (gat (gs.set i g) x).rs (m + 1)) := fun g hg => by
    rw [gat_set _ _ _ _ (by omega)]
    by_cases e : i = x
    · rw [if_pos e, ← e]; exact hg
    · rw [if_neg e]; exact Grown.refl _
  obtain ⟨oi, fi⟩ := h.ok i hi
  obtain ⟨oj, fj⟩ := h.ok j hj
  have hqi := (fi (m + 1) (by omega)).2 (by omega)
  have hqj := (fj (m + 1) (by omega)).2 (by omega)
  split
  · refine hset _ ?_
    rw [doubt_lat oi.len (by omega)]
    split
    · rename_i h1
      refine ⟨by rw [← h1.1], .inr ⟨by rw [← h1.1], ?_⟩⟩
      have : (lat (gat gs i).rs (j + 1)).u = 1 := by
        by_cases h : (lat (gat gs i).rs (j + 1)).u = 1
        · exact h
        · exact absurd (.inr h) h1.2
      rw [← h1.1, this]; dsimp only; omega
    · exact Grown.refl _
  · split
    · refine hset _ ?_
      rw [(tick_row oi.len (by omega)).1]
      split
      · rename_i h1
        exact ⟨rfl, .inr ⟨rfl, by dsimp only; omega⟩⟩
      · exact Grown.refl _
    · refine hset _ ?_
      rw [merge_lat oi.len oj.len oj.qs _ (by omega), if_pos hqj]
      have hr := oj.row (m + 1) (by omega)
      refine upd_grown (B := B) ?_ hqi ?_ hM
      · rw [oi.qs _ (by omega) hqi, oj.qs _ (by omega) hqj]
      · rcases hr with h1 | h1
        · rw [h1] at hqj; exact absurd rfl hqj
        · omega
theorem starts_ok (n : Nat) (ticks : Int) (hn : n ≤ 8) (t1 : 1 ≤ ticks) (t2 : ticks ≤ 100) : NetOk n 0 ((List.range n).map fun (i : Nat) => startG ((i : Int) + 1) ticks n) :=
  ⟨by simp, hn, by omega, by omega, fun i hi => by
    have : gat ((List.range n).map fun (i : Nat) => startG ((i : Int) + 1) ticks n) i = startG ((i : Int) + 1) ticks n := by simp [gat, List.getD_eq_getElem?_getD, hi]
    rw [this]
    exact startG_ok i n ticks hn hi t1 t2⟩
end Go
