import Derived.Test.YtkhchfjhmplaiaaR5
namespace Go
/-- What the call's own appended row reads as. -/
theorem IntsV.ofOwn {w : World} {base e : Nat} {v : Value} {n : Nat} {zs : List Int} (h : w.ownsRow base e 1 v n (zs.map (Value.int .i64))) (hw : ∀ z ∈ zs, (Lit.int .i64 z).wf = true) :
    ∃ a c, v = .slice a n c ∧ IntsV w a n c zs ∧ ∀ x, a = some x → base ≤ x.block := by
  obtain ⟨hl, h⟩ := h
  have hn : zs.length = n := by simpa using hl
  rcases h with ⟨rfl, rfl⟩ | ⟨g, cap, cur, rfl, hb, hg, hnc, hcm, hcs, ht⟩
  · exact ⟨none, 0, rfl, ⟨hn, Nat.le_refl _, Nat.zero_le _, hw, fun h => absurd h (by decide)⟩, fun x hx => by cases hx⟩
  · refine ⟨_, _, rfl, ⟨hn, hnc, hcm, hw, fun h0 => ⟨g, 0, rfl, fun i hi => ?_⟩⟩, fun x hx => by cases hx; exact hb⟩
    rw [Nat.zero_add, cell_of_row w g i cur e (0, 0) hg]
    have : (cur.toList.take (n * 1))[i]? = (zs.map (Value.int .i64))[i]? := by rw [ht]
    rw [List.getElem?_take, if_pos (by omega)] at this
    simp only [Array.getElem?_toList] at this
    rw [this]
    simp [List.getD_eq_getElem?_getD, hn ▸ hi]
theorem wf_small {z : Int} (h0 : -1000000 ≤ z) (h1 : z ≤ 1000000) : (Lit.int .i64 z).wf = true := by
  have h2 : IntKind.i64.min = -9223372036854775808 := by decide
  have h3 : IntKind.i64.max = 9223372036854775807 := by decide
  simp [Lit.wf, h2, h3]
  omega
end Go
