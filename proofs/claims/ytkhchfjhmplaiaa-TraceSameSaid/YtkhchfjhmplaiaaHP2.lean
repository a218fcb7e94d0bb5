import Derived.Test.YtkhchfjhmplaiaaR6
namespace Go
/-- A component, or 0. -/
def geTo (xs ys : List Int) (k : Nat) : Bool := (List.range k).all fun j => decide (xs.getD j 0 ≤ ys.getD j 0)
def ltTo (xs ys : List Int) (k : Nat) : Bool := (List.range k).any fun j => decide (xs.getD j 0 < ys.getD j 0)
def eqTo (xs ys : List Int) (k : Nat) : Bool := (List.range k).all fun j => decide (xs.getD j 0 = ys.getD j 0)
def lessL (xs ys : List Int) : Bool := geTo xs ys (max xs.length ys.length) && ltTo xs ys (max xs.length ys.length)
def alikeL (xs ys : List Int) : Bool := eqTo xs ys (max xs.length ys.length)
def joinL (xs ys : List Int) : List Int := (List.range (max xs.length ys.length)).map fun j => max (xs.getD j 0) (ys.getD j 0)
def lowL (xs : List Int) : List Int := xs.map fun x => max x 0
theorem geTo_succ (xs ys : List Int) (k : Nat) : geTo xs ys (k + 1) = (geTo xs ys k && decide (xs.getD k 0 ≤ ys.getD k 0)) := by simp [geTo, List.range_succ]
theorem ltTo_succ (xs ys : List Int) (k : Nat) : ltTo xs ys (k + 1) = (ltTo xs ys k || decide (xs.getD k 0 < ys.getD k 0)) := by simp [ltTo, List.range_succ]
theorem eqTo_succ (xs ys : List Int) (k : Nat) : eqTo xs ys (k + 1) = (eqTo xs ys k && decide (xs.getD k 0 = ys.getD k 0)) := by simp [eqTo, List.range_succ]
theorem geTo_no {xs ys : List Int} {k m : Nat} (h : k < m) (hn : ys.getD k 0 < xs.getD k 0) : geTo xs ys m = false := by
  rw [geTo, List.all_eq_false]
  exact ⟨k, List.mem_range.2 h, by simpa using hn⟩
theorem eqTo_no {xs ys : List Int} {k m : Nat} (h : k < m) (hn : xs.getD k 0 ≠ ys.getD k 0) : eqTo xs ys m = false := by
  rw [eqTo, List.all_eq_false]
  exact ⟨k, List.mem_range.2 h, by simpa using hn⟩
/-- What the call's own appended row reads as. -/
theorem IntsV.ofOwn0 {w : World} {base e : Nat} {v : Value} {n : Nat} {zs : List Int} (h : w.ownsRow base e 1 v n (zs.map (Value.int .i64))) (hw : ∀ z ∈ zs, (Lit.int .i64 z).wf = true) :
    ∃ a c, v = .slice a n c ∧ IntsV w a n c zs := by
  obtain ⟨hl, h⟩ := h
  have hn : zs.length = n := by simpa using hl
  rcases h with ⟨rfl, rfl⟩ | ⟨g, cap, cur, rfl, _, hg, hnc, hcm, hcs, ht⟩
  · exact ⟨none, 0, rfl, hn, Nat.le_refl _, Nat.zero_le _, hw, fun h => absurd h (by decide)⟩
  · refine ⟨_, _, rfl, hn, hnc, hcm, hw, fun h0 => ⟨g, 0, rfl, fun i hi => ?_⟩⟩
    rw [Nat.zero_add, cell_of_row w g i cur e (0, 0) hg]
    have : (cur.toList.take (n * 1))[i]? = (zs.map (Value.int .i64))[i]? := by rw [ht]
    rw [List.getElem?_take, if_pos (by omega)] at this
    simp only [Array.getElem?_toList] at this
    rw [this]
    simp [List.getD_eq_getElem?_getD, hn ▸ hi]
theorem IntsV.wfAt {w : World} {a : Option Addr} {n c : Nat} {zs : List Int} (h : IntsV w a n c zs) (k : Nat) : (Lit.int .i64 (zs.getD k 0)).wf = true := by
  rw [List.getD_eq_getElem?_getD]
  cases hk : zs[k]? with
  | none => decide
  | some z => exact h.wf z (List.mem_of_getElem? hk)
theorem IntsV.look {w : World} {a : Option Addr} {n c : Nat} {zs : List Int} (h : IntsV w a n c zs) (k : Nat) :
    (k < n ∧ ∃ b off, a = some ⟨b, off, none⟩ ∧ w.cell? ⟨b, off + k, none⟩ = some (.int .i64 (zs.getD k 0))) ∨ (n ≤ k ∧ zs.getD k 0 = 0) := by
  by_cases hk : k < n
  · obtain ⟨b, off, rfl, hc⟩ := h.cells (by omega)
    exact .inl ⟨hk, b, off, rfl, hc k hk⟩
  · exact .inr ⟨by omega, by have := h.len; simp [List.getD_eq_getElem?_getD, List.getElem?_eq_none (show zs.length ≤ k by omega)]⟩
theorem wf_max {x y : Int} (h : (Lit.int .i64 x).wf = true) (h' : (Lit.int .i64 y).wf = true) : (Lit.int .i64 (max x y)).wf = true := by
  rcases Int.le_total x y with h1 | h1
  · rw [Int.max_eq_right h1]; exact h'
  · rw [Int.max_eq_left h1]; exact h
end Go
namespace Go
theorem joinTo_succ (xs ys : List Int) (k : Nat) : ((List.range (k + 1)).map fun j => max (xs.getD j 0) (ys.getD j 0)) = ((List.range k).map fun j => max (xs.getD j 0) (ys.getD j 0)) ++ [max (xs.getD k 0) (ys.getD k 0)] := by simp [List.range_succ]
end Go
namespace Go
theorem eqTo_iff {xs ys : List Int} (h : xs.length = ys.length) : eqTo xs ys xs.length = true ↔ xs = ys := by
  constructor
  · intro he
    refine List.ext_getElem h fun i h1 h2 => ?_
    have := List.all_eq_true.1 he i (List.mem_range.2 h1)
    simpa [List.getD_eq_getElem?_getD, h1, h2] using this
  · rintro rfl
    exact List.all_eq_true.2 fun i _ => by simp
theorem lowTo_succ (zs : List Int) (k : Nat) (h : k < zs.length) : lowL (zs.take (k + 1)) = lowL (zs.take k) ++ [max (zs.getD k 0) 0] := by
  rw [List.take_succ_eq_append_getElem h, lowL, lowL, List.map_append]
  congr 1
  simp [List.getD_eq_getElem?_getD, h]
end Go
