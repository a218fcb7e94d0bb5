import Derived.Test.YtmdfkbckpekchaaK8
namespace Go.Proofs.Ytmdfkbckpekchaa
open Go.RowKit
/-- Nothing is left while somebody wants it. -/
def Done (room : Int) (ls : List Ln) : Prop := Go.held ls = room ∨ ∀ l ∈ ls, l.q = 0
theorem nextGo_none (ls : List Ln) (turn n : Nat) : ∀ (m k : Nat), nextGo ls turn n m k = none → ∀ d, d < m → (ls.getD ((turn + (k + d)) % n) ⟨0, 0, 0⟩).q ≤ 0 := by
  intro m
  induction m with
  | zero => intro k _ d hd; omega
  | succ m ih =>
    intro k h d hd
    rw [nextGo] at h
    split at h
    · cases h
    · rename_i hq
      cases d with
      | zero => simpa using hq
      | succ d => have := ih (k + 1) h d (by omega); rwa [show k + 1 + d = k + (d + 1) by omega] at this
theorem nextL_none {ls : List Ln} {turn : Nat} (ht : turn < ls.length) (h : nextL ls turn = none) (i : Nat) (hi : i < ls.length) : (ls.getD i ⟨0, 0, 0⟩).q ≤ 0 := by
  have := nextGo_none ls turn ls.length ls.length 0 h ((i + (ls.length - turn)) % ls.length) (Nat.mod_lt _ (by omega))
  have e : (turn + (0 + (i + (ls.length - turn)) % ls.length)) % ls.length = i := by
    rw [Nat.zero_add, Nat.add_mod_mod, show turn + (i + (ls.length - turn)) = i + ls.length by omega, Nat.add_mod_right, Nat.mod_eq_of_lt hi]
  rwa [e] at this
theorem grantGo_ok {room : Int} {n : Nat} : ∀ (m t : Nat) (ls : List Ln), PoolOk room n t ls → m = (room - Go.held ls).toNat →
    PoolOk room n (grantGo m ls t).2 (grantGo m ls t).1 ∧ Done room (grantGo m ls t).1 := by
  intro m
  induction m with
  | zero => intro t ls h hm; exact ⟨h, .inl (by have := h.held; show Go.held ls = room; omega)⟩
  | succ m ih =>
    intro t ls h hm
    rw [grantGo]
    cases hn : nextL ls t with
    | none =>
      refine ⟨h, .inr (show ∀ l ∈ ls, l.q = 0 from fun l hl => ?_)⟩
      obtain ⟨i, hi, rfl⟩ := List.getElem_of_mem hl
      have h1 := nextL_none (by rw [h.len]; exact h.turn) hn i hi
      have h2 := h.ok _ hl
      rw [List.getD_eq_getElem?_getD, List.getElem?_eq_getElem hi, Option.getD_some] at h1
      unfold LnOk at h2
      show ls[i].q = 0
      omega
    | some j =>
      have hj := nextL_spec hn
      have hg := h.give hn (by omega)
      rw [← h.len] at hg
      have := ih ((j + 1) % ls.length) (give ls j) (by rw [← h.len]; exact hg) (by rw [held_give _ _ hj.1]; omega)
      exact this
theorem grantL_ok {room : Int} {n t : Nat} {ls : List Ln} (h : PoolOk room n t ls) : PoolOk room n (grantL room ls t).2 (grantL room ls t).1 ∧ Done room (grantL room ls t).1 := grantGo_ok _ _ _ h rfl
end Go.Proofs.Ytmdfkbckpekchaa
