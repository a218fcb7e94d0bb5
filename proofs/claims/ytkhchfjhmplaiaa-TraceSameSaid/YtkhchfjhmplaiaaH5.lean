import Derived.Test.YtkhchfjhmplaiaaH3
import Derived.Test.YtkhchfjhmplaiaaH4
import Derived.Test.YtkhchfjhmplaiaaHP5
import Derived.Deep.RegionWith
namespace Go.Proofs.Ytkhchfjhmplaiaa
open Go.RowKit
theorem own_cells {w : World} {B e n : Nat} {v : Value} {xs : List Value} (h : w.ownsRow B e 1 v n xs) (hn : 0 < n) : ∃ g cap, v = .slice (some ⟨g, 0, none⟩) n cap ∧ B ≤ g ∧ g < w.heap.size ∧ n ≤ cap ∧ cap ≤ maxLen ∧ (∀ i, i < n → w.cell? ⟨g, i, none⟩ = xs[i]?) ∧ ∀ i, w.frozen? ⟨g, i, none⟩ = false := by
  obtain ⟨hl, h⟩ := h
  rcases h with ⟨_, h0⟩ | ⟨g, cap, cur, rfl, hb, hg, hnc, hcm, hcs, ht⟩
  · omega
  · refine ⟨g, cap, rfl, hb, (Array.getElem?_eq_some_iff.1 hg).1, hnc, hcm, fun i hi => ?_, thaw hg⟩
    rw [cell_of_row w g i cur e (0, 0) hg]
    have : (cur.toList.take (n * 1))[i]? = xs[i]? := by rw [ht]
    rw [List.getElem?_take, if_pos (by omega)] at this
    simpa using this
theorem clk_wf {h : List Ln} (hk : HOk h) {i : Nat} (hi : i < h.length) : ∀ z ∈ clk h i, (Lit.int .i64 z).wf = true := fun z hz => by
  have := (clk_ok hk i hi).bd z hz
  have := hk.len
  exact wf_small (by omega) (by omega)
/-- The clocks in memory, each as a slice of numbers. -/
theorem clocks_at {a : Option Addr} {n c : Nat} {h : List Ln} {w : World} (hv : LnsV w a n c h) (hk : HOk h) (hn : 0 < n) :
    Calls Try.prog 25 #[.slice a n c] w fun e w' => ∃ g cap, e = .returned (.tuple #[.slice (some ⟨g, 0, none⟩) n cap, .int .i64 0]) ∧ Keep [] w w' ∧ w.heap.size ≤ g ∧ g < w'.heap.size ∧ n ≤ cap ∧ cap ≤ maxLen ∧ ∀ i, i < n → ∃ gi ci, w'.cell? ⟨g, i, none⟩ = some (.slice (some ⟨gi, 0, none⟩) 8 ci) ∧ IntsV w' (some ⟨gi, 0, none⟩) 8 ci (clk h i) := by
  have hl := hv.len
  refine (clocks_ok hv hk).mono ?_
  rintro e w' ⟨v, V, rfl, hk1, ho, hV⟩
  obtain ⟨g, cap, rfl, hg, hgl, hnc, hcm, hcell, _⟩ := own_cells ho hn
  refine ⟨g, cap, rfl, hk1, hg, hgl, hnc, hcm, fun i hi => ?_⟩
  obtain ⟨gi, ci, hvi, _⟩ := own_form (hV i hi) (by omega)
  obtain ⟨ai, ci', hve, hint, _⟩ := IntsV.ofOwn (hV i hi) (clk_wf hk (by omega))
  rw [hvi] at hve
  cases hve
  refine ⟨gi, ci, ?_, hint⟩
  rw [hcell i hi, List.getElem?_map, List.getElem?_range hi]
  show some (V i) = _
  rw [hvi]
set_option maxRecDepth 100000 in
set_option maxHeartbeats 1000000 in
theorem ahead_any {a : Option Addr} {n c : Nat} {h : List Ln} {w : World} (hv : LnsV w a n c h) (hk : HOk h) {i j : Nat} (hi : i < n) (hj : j < n) :
    Calls Try.prog 23 #[.slice a n c, .int .i64 i, .int .i64 j] w fun e w' => e = .returned (.tuple #[.bool (lessL (clk h i) (clk h j)), .int .i64 0]) ∧ Keep [] w w' := by
  have hc := Lib.hid (clocks_at hv hk (by omega))
  have hm := hv.most
  have hr := hv.room
  unfold maxLen at hm
  have h1 : ¬ (min (i : Int) j < 0) := by omega
  have h2 : ¬ (max (i : Int) j ≥ n) := by omega
  clear hv hk
  go_enter Try.func23, Try.ntmps23
  go_wp2_with (first | (go_at_call 25; refine hc.out.mono ?_; rintro e w1 ⟨g, cap, rfl, hk1, hg, hgl, hnc, hcm, hcs⟩; obtain ⟨gi, ci, hci, hii⟩ := hcs i hi; obtain ⟨gj, cj, hcj, hij⟩ := hcs j hj; have HII := Lib.hid hii; have HIJ := Lib.hid hij; have HK1 := Lib.hid hk1; unfold maxLen at hcm; clear hii hij hcs hk1))
  have e1 : (i : Int) < (n : Int) := by omega
  have e2 : (j : Int) < (n : Int) := by omega
  have e3 : (0 : Int) ≤ (i : Int) := by omega
  have e4 : (0 : Int) ≤ (j : Int) := by omega
  go_region_with (first | (go_at_call 27; refine (less_any (HII.out.keep (keep_drewN (Keep.refl [] _) _) (by simp)) (HIJ.out.keep (keep_drewN (Keep.refl [] _) _) (by simp))).mono ?_; rintro e w' ⟨rfl, rfl⟩))
  all_goals
    go_wp2_with fail
    go_ret2
    refine ⟨rfl, ?_⟩
    repeat (first | exact HK1.out | exact keep_drewN HK1.out _ | apply Keep.drew)
def begunH : List Ln := [⟨0, 2, 5⟩, ⟨1, 3, 5⟩]
theorem begun_ok : HOk begunH := by
  refine ⟨by decide, fun i hi => ?_, fun i j h1 h2 => ?_, fun i j h1 h2 => ?_, fun i hi => ?_⟩
  · rcases (by simp [begunH] at hi; omega : i = 0 ∨ i = 1) with h | h <;> (subst h; decide)
  · simp [begunH] at h2; obtain rfl : i = 0 := by omega
    obtain rfl : j = 1 := by omega
    decide
  · simp [begunH] at h2; obtain rfl : i = 0 := by omega
    obtain rfl : j = 1 := by omega
    decide
  · rcases (by simp [begunH] at hi; omega : i = 0 ∨ i = 1) with h | h
    · subst h; decide
    · subst h; intro _; exact ⟨0, by decide, by decide, by decide⟩
theorem begun_clk : clk begunH 1 = [1, 1, 0, 0, 0, 0, 0, 0] := by decide
theorem begun_lns (w : World) : LnsV (w.alloc (.cells #[.int .i64 0, .int .i64 2, .int .i64 5, .int .i64 1, .int .i64 3, .int .i64 5] 27)) (some ⟨w.heap.size, 0, none⟩) 2 2 begunH :=
  ⟨rfl, by omega, by decide, fun _ => ⟨w.heap.size, 0, rfl, fun i hi => by
    rw [cellAt (blk_new _ _), show (0 + i) = i by omega]
    rcases (by omega : i = 0 ∨ i = 1 ∨ i = 2 ∨ i = 3 ∨ i = 4 ∨ i = 5) with h | h | h | h | h | h <;> (subst h; rfl)⟩⟩
theorem begun_ints (w : World) : IntsV (w.alloc (.cells #[.int .i64 1, .int .i64 1, .int .i64 0, .int .i64 0, .int .i64 0, .int .i64 0, .int .i64 0, .int .i64 0] 3)) (some ⟨w.heap.size, 0, none⟩) 8 8 [1, 1, 0, 0, 0, 0, 0, 0] :=
  ⟨rfl, by omega, by decide, by decide, fun _ => ⟨w.heap.size, 0, rfl, fun i hi => by
    rw [cellAt (blk_new _ _), show (0 + i) = i by omega]
    rcases (by omega : i = 0 ∨ i = 1 ∨ i = 2 ∨ i = 3 ∨ i = 4 ∨ i = 5 ∨ i = 6 ∨ i = 7) with h | h | h | h | h | h | h | h <;> (subst h; rfl)⟩⟩
set_option maxRecDepth 100000 in
set_option maxHeartbeats 1000000 in
theorem begun_any (w : World) : Calls Try.prog 22 #[] w fun e w' => e = .returned (.bool true) ∧ Keep [] w w' := by
  have hc := Lib.hid (clocks_at (begun_lns w) begun_ok (by omega))
  have hk0 : Keep [] w (w.alloc (.cells #[.int .i64 0, .int .i64 2, .int .i64 5, .int .i64 1, .int .i64 3, .int .i64 5] 27)) := (Keep.refl _ _).alloc _
  have HK0 := Lib.hid hk0
  clear hk0
  go_enter Try.func22, Try.ntmps22
  go_wp2_with (first | (go_at_call 25; refine hc.out.mono ?_; rintro e w1 ⟨g, cap, rfl, hk1, hg, hgl, hnc, hcm, hcs⟩; obtain ⟨gi, ci, hci, hii⟩ := hcs 1 (by omega); rw [begun_clk] at hii; have HII := Lib.hid hii; have HK1 := Lib.hid hk1; unfold maxLen at hcm; clear hii hcs hk1; simp at hg; have hgne : ¬ g = w1.heap.size := by omega) | (go_at_call 34; refine (equal_any (HII.out.keep ((Keep.refl [] _).alloc _) (by simp)) (begun_ints _)).mono ?_; rintro e w2 ⟨rfl, hk2⟩))
  go_ret
  exact ⟨ret_bool (by decide), (HK0.out.trans HK1.out).trans (((Keep.refl _ _).alloc _).trans hk2)⟩
end Go.Proofs.Ytkhchfjhmplaiaa
