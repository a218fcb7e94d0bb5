import Derived.Test.YtmdfkbckpekchaaF
namespace Go.Proofs.Ytmdfkbckpekchaa
open Go.RowKit
set_option maxHeartbeats 400000 in
theorem fenceBegun_any (w : World) : Calls Try.prog 18 #[] w fun e w' => e = .returned (.bool true) ∧ Keep [] w w' := by
  go_enter Try.func18, Try.ntmps18
  go_wp2_with (first | (with_reducible refine Txt.wp_region_text mixed quiet (by kernel_rfl) ?_) | (with_reducible refine Txt.text_done (by kernel_rfl) ?_) | (go_at_call 23; refine (newLease_any _).mono ?_; rintro e w' ⟨rfl, rfl⟩) | (go_at_call 24; refine (take_free (b := w.heap.size) (now := 0) (epoch := 0) (node := 0) (till := 0) (T := 64) (blk_new _ _) (by omega) (by omega) (by omega) (by omega) (by omega) (by omega) (by omega) (by omega) (.inl rfl)).mono ?_; rintro e w1 ⟨rfl, hk1, hb1⟩) | (go_at_call 27; refine (tick_ok hb1 (by omega) (by omega) (by omega) (by omega)).mono ?_; rintro e w2 ⟨rfl, hk2, hb2⟩))
  go_ret
  exact ⟨rfl, (((Keep.refl [] w).alloc _).call hk1 (by simp)).call hk2 (by simp)⟩
end Go.Proofs.Ytmdfkbckpekchaa
