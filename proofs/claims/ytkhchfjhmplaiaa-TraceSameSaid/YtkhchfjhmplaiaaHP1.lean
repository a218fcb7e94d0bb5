import Derived.Test.YtkhchfjhmplaiaaR5
namespace Go
open Go.RowKit
/-- A history: place, kind (1 local, 2 send, 3 take), message. -/
structure HOk (h : List Ln) : Prop where
  len : h.length ≤ 200
  ev : ∀ i, i < h.length → 0 ≤ (lat h i).q ∧ (lat h i).q < 8 ∧ 1 ≤ (lat h i).g ∧ (lat h i).g ≤ 3 ∧ 0 ≤ (lat h i).u ∧ (lat h i).u ≤ 999
  sends : ∀ i j, i < j → j < h.length → (lat h i).g = 2 → (lat h j).g = 2 → (lat h i).u ≠ (lat h j).u
  takes : ∀ i j, i < j → j < h.length → (lat h i).g = 3 → (lat h j).g = 3 → (lat h i).u ≠ (lat h j).u
  sent : ∀ i, i < h.length → (lat h i).g = 3 → ∃ j, j < i ∧ (lat h j).g = 2 ∧ (lat h j).u = (lat h i).u
/-- Is there an event of a kind, with a message, ahead of k? -/
def saidB (h : List Ln) (g : Int) (k : Nat) (x : Int) : Bool := (List.range k).any fun i => decide ((lat h i).g = g) && decide ((lat h i).u = x)
theorem saidB_succ (h : List Ln) (g : Int) (k : Nat) (x : Int) : saidB h g (k + 1) x = (saidB h g k x || (decide ((lat h k).g = g) && decide ((lat h k).u = x))) := by
  simp [saidB, List.range_succ]
theorem saidB_iff (h : List Ln) (g : Int) (k : Nat) (x : Int) : saidB h g k x = true ↔ ∃ i, i < k ∧ (lat h i).g = g ∧ (lat h i).u = x := by
  simp [saidB]
def markF (h : List Ln) (g : Int) (k : Nat) (x : Int) : Option Value := if saidB h g k x = true then some (.bool true) else none
theorem markF_same {h : List Ln} {g : Int} {k : Nat} (hn : (lat h k).g ≠ g) : markF h g (k + 1) = markF h g k := by
  funext x
  unfold markF
  rw [saidB_succ]
  generalize lat h k = L at *
  simp [hn]
theorem markF_put {h : List Ln} {g : Int} {k : Nat} (hn : (lat h k).g = g) : markF h g (k + 1) = fun y => if y = (lat h k).u then some (.bool true) else markF h g k y := by
  funext x
  unfold markF
  rw [saidB_succ]
  generalize lat h k = L at *
  by_cases e : x = L.u
  · subst e; simp [hn]
  · have : ¬ L.u = x := fun h => e h.symm
    simp [e, this]
theorem mark_send {h : List Ln} (hk : HOk h) {k : Nat} (hlt : k < h.length) (hg : (lat h k).g = 2) : markF h 2 k (lat h k).u = none := by
  unfold markF
  rw [if_neg]
  rw [saidB_iff]
  rintro ⟨i, hi, h1, h2⟩
  exact hk.sends i k hi hlt h1 hg h2
theorem mark_take {h : List Ln} (hk : HOk h) {k : Nat} (hlt : k < h.length) (hg : (lat h k).g = 3) : markF h 3 k (lat h k).u = none ∧ markF h 2 k (lat h k).u = some (.bool true) := by
  constructor
  · unfold markF
    rw [if_neg]
    rw [saidB_iff]
    rintro ⟨i, hi, h1, h2⟩
    exact hk.takes i k hi hlt h1 hg h2
  · unfold markF
    rw [if_pos]
    rw [saidB_iff]
    obtain ⟨j, h1, h2, h3⟩ := hk.sent k hlt hg
    exact ⟨j, h1, h2, h3⟩
theorem wf_msg {z : Int} (h0 : 0 ≤ z) (h1 : z ≤ 999) : (Lit.int .i64 z).wf = true := by
  have h2 : IntKind.i64.min = -9223372036854775808 := by decide
  have h3 : IntKind.i64.max = 9223372036854775807 := by decide
  simp [Lit.wf, h2, h3]
  omega
end Go
