import Derived.Test.YtmdfkbckpekchaaK10
import Derived.Test.YtmdfkbckpekchaaK13
namespace Go.Proofs.Ytmdfkbckpekchaa
open Go.RowKit
theorem begun_want {bp bl : Nat} {w : World} (h : PoolAt w bp bl 2 (0 : Nat) 1 (zeros 1)) (hok : PoolOk 2 1 0 (zeros 1)) :
    Calls Try.prog 34 #[.pointer (some ⟨bp, 0, none⟩), .int .i64 0, .int .i64 3] w fun e w' => e = .returned (.int .i64 0) ∧ Keep [bp, bl] w w' ∧ PoolAt w' bp bl 2 (0 : Nat) 1 [⟨1, 2, 0⟩] :=
  (want_ok h hok (i := 0) (by omega) (q := 0) (g := 0) (u := 0) rfl (m := 3) (by omega) (by omega) (by omega)).mono fun e w' ⟨a, b, c, _⟩ => ⟨a, b, c⟩
theorem begun_use {bp bl : Nat} {w : World} (h : PoolAt w bp bl 2 (0 : Nat) 1 [⟨1, 2, 0⟩]) :
    Calls Try.prog 35 #[.pointer (some ⟨bp, 0, none⟩), .int .i64 0] w fun e w' => e = .returned (.int .i64 0) ∧ Keep [bl] w w' ∧ PoolAt w' bp bl 2 (0 : Nat) 1 [⟨1, 1, 1⟩] :=
  (use_ok h (i := 0) (by omega) (q := 1) (g := 2) (u := 0) rfl (by omega) (by omega) (by omega) (by omega)).mono fun e w' ⟨a, b, c⟩ => ⟨a, b, c⟩
theorem begun_left {bp bl : Nat} {w : World} (h : PoolAt w bp bl 2 (0 : Nat) 1 [⟨1, 1, 1⟩]) :
    Calls Try.prog 39 #[.pointer (some ⟨bp, 0, none⟩)] w fun e w' => e = .returned (.int .i64 0) ∧ Keep [] w w' :=
  (left_any h (fun l hl => by simp at hl; subst hl; simp [LnOk]) (by omega) (by omega) (by omega)).mono fun e w' ⟨a, b⟩ => ⟨a, b⟩
set_option maxHeartbeats 600000 in
theorem begun_any (w : World) : Calls Try.prog 32 #[] w fun e w' => e = .returned (.bool true) ∧ Keep [] w w' := by
  go_enter Try.func32, Try.ntmps32
  go_wp2_with (first | (go_at_call 33; refine (new_any 2 1 _ (by omega) (by omega) (by omega) (by omega)).mono ?_; rintro e w1 ⟨bp, bl, rfl, hbp, hbl, hk1, hp1, hok1⟩; have HP := Lib.hid hp1; have HOK := Lib.hid hok1; clear hp1 hok1) | (go_at_call 34; refine (begun_want HP.out HOK.out).mono ?_; rintro e w2 ⟨rfl, hk2, hp2⟩; have HP2 := Lib.hid hp2; clear hp2) | (go_at_call 35; refine (begun_use HP2.out).mono ?_; rintro e w3 ⟨rfl, hk3, hp3⟩; have HP3 := Lib.hid hp3; clear hp3) | (go_at_call 39; refine (begun_left HP3.out).mono ?_; rintro e w4 ⟨rfl, hk4⟩) | (with_reducible refine Txt.wp_region_text mixed quiet (by kernel_rfl) ?_) | (with_reducible refine Txt.text_done (by kernel_rfl) ?_))
  go_ret
  exact ⟨rfl, ((hk1.call hk2 (by simp; omega)).call hk3 (by simp; omega)).call hk4 (by simp)⟩
end Go.Proofs.Ytmdfkbckpekchaa
