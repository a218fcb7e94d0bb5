import Derived.Test.YtmkdppbnmogmlaaGRst
import Derived.Outline
namespace Go
def knownB (g : Gs) (n : Int) : Bool := decide (1 ≤ n) && decide (n ≤ 8) && decide ((lat g.rs n.toNat).q ≠ 0)
end Go
namespace Go.Proofs.Ytmkdppbnmogmlaa
open Go.RowKit
theorem isNode_any (n : Int) (w : World) : Calls Try.prog 25 #[.int .i64 n] w fun e w' => e = .returned (.bool (decide (1 ≤ n) && decide (n ≤ 8))) ∧ w = w' := by
  go_enter Try.func25, Try.ntmps25
  go_wp2_with (first | (with_reducible refine Txt.wp_region_text mixed quiet (by kernel_rfl) ?_) | (with_reducible refine Txt.text_done (by kernel_rfl) ?_))
  all_goals go_ret
  all_goals first | (refine ⟨ret_bool ?_, rfl⟩; simp_all; done) | (refine ⟨ret_bool ?_, rfl⟩; simp; omega)
theorem isNode_yes (n : Int) (w : World) (h1 : 1 ≤ n) (h2 : n ≤ 8) : Calls Try.prog 25 #[.int .i64 n] w fun e w' => e = .returned (.bool true) ∧ w = w' :=
  (isNode_any n w).mono fun _ _ ⟨he, hw⟩ => ⟨he.trans (ret_bool (by simp [h1, h2])), hw⟩
/-- A known node. -/
theorem known_at {b : Nat} {g : Gs} {w : World} {N : Int} {n : Nat} (h : GAt 55 w b g) (hN : Hid (N = n)) (h1 : 1 ≤ n) (h8 : n ≤ 8) (v : Bool) (hv : Hid (decide ((lat g.rs n).q ≠ 0) = v)) :
    Calls Try.prog 24 #[.pointer (some ⟨b, 0, none⟩), .int .i64 N] w fun e w' => e = .returned (.bool v) ∧ w = w' := by
  obtain rfl := hN.out
  obtain ⟨c0, c1, c2⟩ := h.row (show n < 9 by omega)
  generalize lat g.rs n = L at *
  obtain ⟨q, gg, u⟩ := L
  dsimp only at *
  clear h c1 c2
  go_enter Try.func24, Try.ntmps24
  go_wp2_with (first | (go_at_call 25; refine (isNode_yes _ _ (by omega) (by omega)).mono ?_; rintro e w' ⟨rfl, rfl⟩) | (with_reducible refine Txt.wp_region_text mixed quiet (by kernel_rfl) ?_) | (with_reducible refine Txt.text_done (by kernel_rfl) ?_))
  all_goals go_ret
  all_goals exact ⟨ret_bool (by rw [← hv.out]; by_cases hq : q = 0 <;> simp [hq]), rfl⟩
theorem says_at {b : Nat} {g : Gs} {w : World} {N : Int} {n : Nat} (h : GAt 55 w b g) (hN : Hid (N = n)) (h1 : 1 ≤ n) (h8 : n ≤ 8) (hq : (lat g.rs n).q ≠ 0) {u : Int} (hu : (lat g.rs n).u = u) :
    Calls Try.prog 14 #[.pointer (some ⟨b, 0, none⟩), .int .i64 N] w fun e w' => e = .returned (.tuple #[.int .i64 u, .int .i64 0]) ∧ Keep [] w w' := by
  have HK := Lib.hid (fun w' (h : GAt 55 w' b g) => known_at (w := w') h hN h1 h8 true (Lib.hid (by simpa using hq)))
  obtain rfl := hN.out
  obtain ⟨c0, c1, c2⟩ := h.row (show n < 9 by omega)
  have HG := Lib.hid h
  rw [hu] at c2
  clear h c0 c1 hq hu
  go_enter Try.func14, Try.ntmps14
  go_wp2_with (first | (go_at_call 24; refine (HK.out _ (by first | exact HG.out | exact HG.out.drew)).mono ?_; rintro e w' ⟨rfl, rfl⟩) | (with_reducible refine Txt.wp_region_text mixed quiet (by kernel_rfl) ?_) | (with_reducible refine Txt.text_done (by kernel_rfl) ?_))
  go_ret2
  exact ⟨rfl, Keep.refl _ _⟩
theorem doubt_no {b : Nat} {g : Gs} {w : World} {N : Int} {n : Nat} (h : GAt 55 w b g) (hN : Hid (N = n)) (h1 : 1 ≤ n) (h8 : n ≤ 8) (hq : (lat g.rs n).q ≠ 0) (hno : N = g.me ∨ (lat g.rs n).u ≠ 1) :
    Calls Try.prog 13 #[.pointer (some ⟨b, 0, none⟩), .int .i64 N] w fun e w' => ∃ k, e = .returned (.int .i64 k) ∧ Keep [] w w' := by
  have HK := Lib.hid (fun w' (h : GAt 55 w' b g) => known_at (w := w') h hN h1 h8 true (Lib.hid (by simpa using hq)))
  obtain rfl := hN.out
  obtain ⟨c0, c1, c2⟩ := h.row (show n < 9 by omega)
  obtain ⟨d0, d1, d2⟩ := h.head
  have HG := Lib.hid h
  generalize lat g.rs n = L at *
  obtain ⟨q, t, u⟩ := L
  dsimp only at *
  generalize g.me = me at *
  clear h c0 c1 d1 d2 hq
  by_cases hm : (n : Int) = me
  · subst hm
    clear hno
    go_enter Try.func13, Try.ntmps13
    go_wp2_with (first | (go_at_call 24; refine (HK.out _ (by first | exact HG.out | exact HG.out.drew)).mono ?_; rintro e w' ⟨rfl, rfl⟩) | (with_reducible refine Txt.wp_region_text mixed quiet (by kernel_rfl) ?_) | (with_reducible refine Txt.text_done (by kernel_rfl) ?_))
    go_ret
    exact ⟨_, rfl, Keep.refl _ _⟩
  · have hu : u ≠ 1 := by rcases hno with h | h <;> first | exact h | exact absurd h hm
    clear hno
    go_enter Try.func13, Try.ntmps13
    go_wp2_with (first | (go_at_call 24; refine (HK.out _ (by first | exact HG.out | exact HG.out.drew)).mono ?_; rintro e w' ⟨rfl, rfl⟩) | (with_reducible refine Txt.wp_region_text mixed quiet (by kernel_rfl) ?_) | (with_reducible refine Txt.text_done (by kernel_rfl) ?_))
    go_ret
    exact ⟨_, rfl, Keep.refl _ _⟩
set_option maxHeartbeats 600000 in
theorem doubt_ok {b : Nat} {g : Gs} {w : World} {N : Int} {n : Nat} (h : GAt 55 w b g) (hN : Hid (N = n)) (h1 : 1 ≤ n) (h8 : n ≤ 8) (hq : (lat g.rs n).q ≠ 0) (hm : N ≠ g.me) {q t : Int} (hL : lat g.rs n = ⟨q, t, 1⟩) :
    Calls Try.prog 13 #[.pointer (some ⟨b, 0, none⟩), .int .i64 N] w fun e w' => e = .returned (.int .i64 0) ∧ Keep [b] w w' ∧ GAt 55 w' b { g with rs := g.rs.set n ⟨q, t, 2⟩, ts := g.ts.set n 0 } := by
  have HK := Lib.hid (fun w' (h : GAt 55 w' b g) => known_at (w := w') h hN h1 h8 true (Lib.hid (by simpa using hq)))
  obtain rfl := hN.out
  obtain ⟨c0, c1, c2⟩ := h.row (show n < 9 by omega)
  obtain ⟨d0, d1, d2⟩ := h.head
  have c3 := h.timer (show n < 9 by omega)
  have hf := h.thaw
  have HG := Lib.hid h
  have HL := Lib.hid hL
  rw [hL] at c2
  dsimp only at c2
  generalize g.ts.getD n 0 = tm at *
  generalize hme : g.me = me at *
  have HME := Lib.hid hme
  clear h c0 c1 d1 d2 hq hL hme
  go_enter Try.func13, Try.ntmps13
  go_wp2_with (first | (go_at_call 24; refine (HK.out _ (by first | exact HG.out | exact HG.out.drew)).mono ?_; rintro e w' ⟨rfl, rfl⟩) | (with_reducible refine Txt.wp_region_text mixed quiet (by kernel_rfl) ?_) | (with_reducible refine Txt.text_done (by kernel_rfl) ?_))
  go_ret
  refine ⟨rfl, ?_, ?_⟩
  · repeat (first | exact Keep.refl _ _ | apply Keep.drew | refine Keep.setCell ?_ (by simp) _)
  · have e1 := HG.out.putRow (show n < 9 by omega) 2 (by omega) (.int .i64 2) ⟨q, t, 2⟩ (by rw [HL.out]; rfl)
    have e2 := (e1.putTimer (show n < 9 by omega) 0).drew
    obtain rfl := HME.out
    exact e2
end Go.Proofs.Ytmkdppbnmogmlaa
