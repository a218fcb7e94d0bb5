import Derived.Test.YtmkdppbnmogmlaaG1
import Derived.Test.YtmkdppbnmogmlaaR4
import Derived.RegionTactic
import Derived.ChangeAlike
import Derived.Outline
namespace Go
def newG (me ticks : Int) (m : Nat) : Gs := ⟨me, ticks, 0, (List.replicate 9 ⟨0, 0, 0⟩).set m ⟨me, 0, 1⟩, List.replicate 9 0⟩
end Go
namespace Go.Proofs.Ytmkdppbnmogmlaa
open Go.RowKit
set_option maxHeartbeats 1000000 in
theorem new_any {me ticks : Int} {m : Nat} (hm : Hid (me = m)) (w : World) (h1 : 1 ≤ me) (h8 : me ≤ 8) (t1 : 1 ≤ ticks) (t2 : ticks ≤ 100) :
    Calls Try.prog 17 #[.int .i64 me, .int .i64 ticks] w fun e w' => ∃ b, e = .returned (.tuple #[.pointer (some ⟨b, 0, none⟩), .int .i64 0]) ∧ w.heap.size ≤ b ∧ b < w'.heap.size ∧ Keep [] w w' ∧ GAt 55 w' b (newG me ticks m) := by
  obtain rfl := hm.out
  clear hm
  rcases (by omega : m = 1 ∨ m = 2 ∨ m = 3 ∨ m = 4 ∨ m = 5 ∨ m = 6 ∨ m = 7 ∨ m = 8) with rfl | rfl | rfl | rfl | rfl | rfl | rfl | rfl
  all_goals
    clear h1 h8
    go_enter Try.func17, Try.ntmps17
    go_wp2_with (first | (go_at_call 25; refine (isNode_yes _ _ (by omega) (by omega)).mono ?_; rintro e w' ⟨rfl, rfl⟩) | (with_reducible refine Txt.wp_region_text mixed quiet (by decide +kernel) ?_) | (with_reducible refine Txt.text_done (by kernel_rfl) ?_))
    go_ret2
    exact ⟨w.heap.size, rfl, Nat.le_refl _, by simp, (Keep.refl [] w).alloc _, blk_new _ _, rfl, rfl⟩
end Go.Proofs.Ytmkdppbnmogmlaa
