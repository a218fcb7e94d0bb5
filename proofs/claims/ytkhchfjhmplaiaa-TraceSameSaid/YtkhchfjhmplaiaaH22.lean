import Derived.Test.YtkhchfjhmplaiaaH21
import Derived.Test.YtkhchfjhmplaiaaH13
import Derived.Test.YtkhchfjhmplaiaaHP12
import Derived.Maps.AppendAt
import Derived.Deep.CutBlock
import Derived.Deep.DeepCutAuto
namespace Go.Proofs.Ytkhchfjhmplaiaa
open Go.RowKit
/-- The clocks in memory, no event too. -/
def ClkR (w : World) (a : Option Addr) (n : Nat) (V : Nat → Value) (h : List Ln) : Prop := ∀ i, i < n → ∃ g gi ci, a = some ⟨g, 0, none⟩ ∧ w.cell? ⟨g, i, none⟩ = some (V i) ∧ V i = .slice (some ⟨gi, 0, none⟩) 8 ci ∧ IntsV w (some ⟨gi, 0, none⟩) 8 ci (clk h i)
theorem ClkR.keep {w w' : World} {a : Option Addr} {n : Nat} {V : Nat → Value} {h : List Ln} (r : ClkR w a n V h) (k : Keep [] w w') : ClkR w' a n V h := fun i hi =>
  let ⟨g, gi, ci, h1, h2, h3, h4⟩ := r i hi
  ⟨g, gi, ci, h1, k.cell h2 (by simp), h3, h4.keep k (by simp)⟩
theorem clocks_at3 {a : Option Addr} {n c : Nat} {h : List Ln} {w : World} (hv : LnsV w a n c h) (hk : HOk h) :
    Calls Try.prog 25 #[.slice a n c] w fun e w' => ∃ a' c' V, e = .returned (.tuple #[.slice a' n c', .int .i64 0]) ∧ Keep [] w w' ∧ n ≤ c' ∧ c' ≤ maxLen ∧ ClkR w' a' n V h := by
  have hl := hv.len
  refine (clocks_ok hv hk).mono ?_
  rintro e w' ⟨v, V, rfl, hk1, ho, hV⟩
  rcases ho.2 with ⟨rfl, h0⟩ | ⟨g, cap, cur, rfl, hb, hg, hnc, hcm, hcs, ht⟩
  · subst h0
    exact ⟨none, 0, V, rfl, hk1, Nat.le_refl _, Nat.zero_le _, fun i hi => absurd hi (by omega)⟩
  · refine ⟨_, cap, V, rfl, hk1, hnc, hcm, fun i hi => ?_⟩
    obtain ⟨gi, ci, hvi, _⟩ := own_form (hV i hi) (by omega)
    obtain ⟨ai, ci', hve, hint, _⟩ := IntsV.ofOwn (hV i hi) (clk_wf hk (by omega))
    rw [hvi] at hve
    cases hve
    exact ⟨g, gi, ci, rfl, own_row ho hi, hvi, hint⟩
/-- Rows of clocks that an own row of slices holds. -/
def RowsA (w : World) (a : Option Addr) (n : Nat) (R : List (List Int)) : Prop := ∀ i, i < n → ∃ g b m c, a = some ⟨g, 0, none⟩ ∧ w.cell? ⟨g, i, none⟩ = some (.slice b m c) ∧ IntsV w b m c (R.getD i [])
theorem RowsA.keep {w w' : World} {a : Option Addr} {n : Nat} {R : List (List Int)} (r : RowsA w a n R) (k : Keep [] w w') : RowsA w' a n R := fun i hi =>
  let ⟨g, b, m, c, h1, h2, h3⟩ := r i hi
  ⟨g, b, m, c, h1, k.cell h2 (by simp), h3.keep k (by simp)⟩
theorem rows_pick {w : World} {B n m : Nat} {v : Value} {a : Option Addr} {V : Nat → Value} {h : List Ln} {P : Nat → Bool} (hc : ClkR w a n V h) (ho : w.ownsRow B 22 1 v m (pick P V n)) : ∃ a' c', v = .slice a' m c' ∧ m ≤ c' ∧ c' ≤ maxLen ∧ RowsA w a' m (pick P (clk h) n) := by
  have hlen : m = rk P n := by have := ho.1; rw [pick_len] at this; omega
  rcases ho.2 with ⟨rfl, h0⟩ | ⟨g, cap, cur, rfl, hb, hg, hnc, hcm, hcs, ht⟩
  · exact ⟨none, 0, by rw [h0], by omega, Nat.zero_le _, fun i hi => absurd hi (by omega)⟩
  · refine ⟨_, cap, rfl, hnc, hcm, fun i hi => ?_⟩
    obtain ⟨g', cap', he, _, _, _, _, hcell, _⟩ := own_cells ho (by omega)
    cases he
    have hi2 : i < ((List.range n).filter P).length := by unfold rk at hlen; omega
    have hj : ((List.range n).filter P)[i] < n := by
      have := List.getElem_mem hi2
      exact List.mem_range.1 (List.mem_filter.1 this).1
    obtain ⟨g2, gi, ci, _, _, h3, h4⟩ := hc _ hj
    refine ⟨g, some ⟨gi, 0, none⟩, 8, ci, rfl, ?_, ?_⟩
    · rw [hcell i hi]
      unfold pick
      rw [List.getElem?_map, List.getElem?_eq_getElem hi2, Option.map_some, h3]
    · have e1 : (pick P (clk h) n).getD i [] = clk h (((List.range n).filter P)[i]) := by
        unfold pick
        rw [List.getD_eq_getElem?_getD, List.getElem?_map, List.getElem?_eq_getElem hi2]; rfl
      rw [e1]; exact h4
theorem eqc52_any {a1 a2 : Option Addr} {n1 c1 n2 c2 : Nat} {xs : List Int} {w : World} (hx : IntsV w a1 n1 c1 xs) (hy : IntsV w a2 n2 c2 xs) :
    Calls Try.prog 52 #[.slice a1 n1 c1, .slice a2 n2 c2] w fun e w' => e = .returned (.bool true) ∧ Keep [] w w' := by
  have h := equal_any hx hy
  rw [decide_eq_true rfl] at h
  have H := Lib.hid h
  clear h hx hy
  go_enter Try.func52, Try.ntmps52
  go_wp2_with (first | (go_at_call 34; refine H.out.mono ?_; rintro e w1 ⟨rfl, hk1⟩))
  go_ret
  exact ⟨rfl, hk1⟩
theorem eqf52_any {a1 a2 : Option Addr} {c1 c2 n : Nat} {R : List (List Int)} {w : World} (hx : RowsA w a1 n R) (hy : RowsA w a2 n R) (h1 : n ≤ c1) (hm1 : c1 ≤ maxLen) :
    Calls Try.prog 41 #[.slice a1 n c1, .slice a2 n c2, .func (.func 52) #[] #[]] w fun e w' => e = .returned (.bool true) ∧ Keep [] w w' := by
  have HX0 := Lib.hid hx
  have HY0 := Lib.hid hy
  unfold maxLen at hm1
  clear hx hy
  go_enter Try.func41, Try.ntmps41
  go_wp2_with fail
  go_loopw [17] (fun i wr => ∃ k : Nat, k ≤ n ∧ i = .int .i64 k ∧ Keep [] w wr) (fun i _ => n - (intOf i).toNat)
  case atStart => exact ⟨0, by omega, rfl, Keep.refl _ _⟩
  case round =>
    obtain ⟨k, hk, rfl, hkw⟩ := hrel
    by_cases hlt : k < n
    · obtain ⟨g3, a3, m3, c3, rfl, hc3, hi3⟩ := HX0.out.keep hkw k hlt
      obtain ⟨g4, a4, m4, c4, rfl, hc4, hi4⟩ := HY0.out.keep hkw k hlt
      have HI3 := Lib.hid hi3
      have HI4 := Lib.hid hi4
      clear hi3 hi4
      go_wp2_with (first | (go_at_call 52; refine (eqc52_any HI3.out HI4.out).mono ?_; rintro e w1 ⟨rfl, hk1⟩))
      go_roundw
      case measure => simp [intOf]; omega
      case rel => exact ⟨k + 1, by omega, by go_num, hkw.trans hk1⟩
    · go_wp2_with fail
      go_ret
      exact ⟨rfl, hkw⟩
theorem same_part {h g : List Ln} (r : SameAt h g) : Part8 h g 8 := ⟨Nat.le_refl _, fun p _ => (r.ev p).symm, fun h => absurd h (by decide)⟩
end Go.Proofs.Ytkhchfjhmplaiaa
