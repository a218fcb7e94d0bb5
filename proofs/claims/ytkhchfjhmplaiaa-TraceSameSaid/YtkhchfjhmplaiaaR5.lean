import Derived.Test.YtkhchfjhmplaiaaR4
import Derived.OwnWalk
import Derived.Laws.OwnMore
import Derived.Deep.AppendLies
import Derived.Deep.Onto
namespace Go
open Go.RowKit
theorem Keep.more {S S' : List Nat} {w w' : World} (h : Keep S w w') (hs : ∀ b ∈ S, b ∈ S') : Keep S' w w' :=
  ⟨h.os, h.tape, h.output, h.size, fun k hk hn => h.block k hk fun hm => hn (hs k hm)⟩
theorem own_keep {S : List Nat} {w w' : World} {base e size n : Nat} {v : Value} {xs : List Value} (h : w.ownsRow base e size v n xs) (k : Keep S w w') (hs : ∀ b, v.ownBlock = some b → b ∉ S) : w'.ownsRow base e size v n xs := by
  refine ⟨h.1, ?_⟩
  rcases h.2 with hn | ⟨g, cap, cur, rfl, hb, hgg, rest⟩
  · exact .inl hn
  · exact .inr ⟨g, cap, cur, rfl, hb, k.at hgg (hs g rfl), rest⟩
/-- A row's block and a block of another kind are two. -/
theorem own_ne {w : World} {base e size n : Nat} {v : Value} {xs : List Value} (h : w.ownsRow base e size v n xs) {b : Nat} {cs : Array Value} {T : TypeId} {f : Nat × Nat} (hb : w.heap[b]? = some (.cells cs T f)) (hT : e ≠ T) : ∀ g, v.ownBlock = some g → g ≠ b := by
  intro g hg he
  subst he
  rcases h.2 with ⟨rfl, _⟩ | ⟨g', cap, cur, rfl, _, hgg, _⟩
  · simp [Value.ownBlock] at hg
  · simp [Value.ownBlock] at hg
    subst hg
    rw [hb] at hgg
    injection hgg with hgg
    injection hgg with _ h2 _
    exact hT h2.symm
theorem own_own {w : World} {base base' e e' size size' n n' : Nat} {v v' : Value} {xs xs' : List Value} (h : w.ownsRow base e size v n xs) (h' : w.ownsRow base' e' size' v' n' xs') (hT : e ≠ e') : ∀ g, v.ownBlock = some g → v'.ownBlock ≠ some g := by
  intro g hg he
  rcases h'.2 with ⟨rfl, _⟩ | ⟨g', cap, cur, rfl, _, hgg, _⟩
  · simp [Value.ownBlock] at he
  · simp [Value.ownBlock] at he
    subst he
    exact own_ne h hgg hT g' hg rfl
theorem Keep.ofGrown {w w' : World} {row : Option Nat} {S : List Nat} (h : w.grownBy w' row) (hr : ∀ k, row = some k → k ∈ S) : Keep S w w' :=
  ⟨h.os, h.tape, h.output, h.size, fun k hk hn => h.block k hk fun e => hn (hr k e.symm)⟩
/-- What Keep a list of blocks S, and nothing else, may touch: those of S that were there. -/
theorem Keep.fresh {S : List Nat} {w w' : World} (h : Keep S w w') (hs : ∀ b ∈ S, w.heap.size ≤ b) : Keep [] w w' :=
  ⟨h.os, h.tape, h.output, h.size, fun k hk _ => h.block k hk fun hm => by have := hs k hm; omega⟩
/-- A slice of pointers to whole blocks. -/
structure PtrsV (w : World) (a : Option Addr) (n c : Nat) (bs : List Nat) : Prop where
  len : bs.length = n
  room : n ≤ c
  most : c ≤ maxLen
  cells : 0 < n → ∃ b off, a = some ⟨b, off, none⟩ ∧ ∀ i, i < n → w.cell? ⟨b, off + i, none⟩ = some (.pointer (some ⟨bs.getD i 0, 0, none⟩))
theorem PtrsV.keep {S : List Nat} {w w' : World} {a : Option Addr} {n c : Nat} {bs : List Nat} (h : PtrsV w a n c bs) (k : Keep S w w') (hs : ∀ x, a = some x → x.block ∉ S) : PtrsV w' a n c bs :=
  ⟨h.len, h.room, h.most, fun hn => by
    obtain ⟨b, off, rfl, hc⟩ := h.cells hn
    exact ⟨b, off, rfl, fun i hi => k.cell (hc i hi) (hs ⟨b, off, none⟩ rfl)⟩⟩
def ptr (b : Nat) : Value := .pointer (some ⟨b, 0, none⟩)
theorem PtrsV.ofOwn {w : World} {base e n : Nat} {v : Value} {bs : List Nat} (h : w.ownsRow base e 1 v n (bs.map ptr)) : ∃ a c, v = .slice a n c ∧ PtrsV w a n c bs ∧ ∀ x, a = some x → base ≤ x.block ∧ ∃ cs, w.heap[x.block]? = some (.cells cs e (0, 0)) := by
  obtain ⟨hl, h⟩ := h
  have hn : bs.length = n := by simpa using hl
  rcases h with ⟨rfl, h0⟩ | ⟨g, cap, cur, rfl, hb, hg, hnc, hcm, hcs, ht⟩
  · subst h0
    exact ⟨none, 0, rfl, ⟨hn, Nat.le_refl _, Nat.zero_le _, fun h => absurd h (by decide)⟩, fun x hx => by cases hx⟩
  · refine ⟨_, _, rfl, ⟨hn, hnc, hcm, fun h0 => ⟨g, 0, rfl, fun i hi => ?_⟩⟩, fun x hx => by cases hx; exact ⟨hb, cur, hg⟩⟩
    rw [Nat.zero_add, cell_of_row w g i cur e (0, 0) hg]
    have : (cur.toList.take (n * 1))[i]? = (bs.map ptr)[i]? := by rw [ht]
    rw [List.getElem?_take, if_pos (by omega)] at this
    simp only [Array.getElem?_toList] at this
    rw [this]
    simp [List.getD_eq_getElem?_getD, hn ▸ hi, ptr]
end Go
namespace Go
theorem own_sep {w : World} {base base' e e' size size' n n' : Nat} {v v' : Value} {xs xs' : List Value} (h : w.ownsRow base e size v n xs) (h' : w.ownsRow base' e' size' v' n' xs') (hT : e ≠ e') : v.ownBlock = none ∨ v.ownBlock ≠ v'.ownBlock := by
  cases hv : v.ownBlock with
  | none => exact .inl rfl
  | some g => exact .inr fun he => own_own h h' hT g hv he.symm
end Go
