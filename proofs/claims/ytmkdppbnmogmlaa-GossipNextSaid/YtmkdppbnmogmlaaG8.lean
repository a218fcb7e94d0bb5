import Derived.Test.YtmkdppbnmogmlaaG7
import Derived.Test.YtmkdppbnmogmlaaGP2
namespace Go.Proofs.Ytmkdppbnmogmlaa
open Go.RowKit
def starts (n : Nat) (ticks : Int) : List Gs := (List.range n).map fun (i : Nat) => startG ((i : Int) + 1) ticks n
theorem starts_at {n i : Nat} (ticks : Int) (hi : i < n) : (starts n ticks).getD i g0 = startG ((i : Int) + 1) ticks n := by simp [starts, List.getD_eq_getElem?_getD, hi]
theorem net_any {N ticks : Int} {n : Nat} (hN : Hid (N = n)) (w : World) (h1 : 1 ≤ N) (h8 : N ≤ 8) (t1 : 1 ≤ ticks) (t2 : ticks ≤ 100) :
    Calls Try.prog 11 #[.int .i64 N, .int .i64 ticks] w fun e w' => ∃ a c bs, e = .returned (.tuple #[.slice a n c, .bool true]) ∧ Keep [] w w' ∧ NetAt w' a n c bs (starts n ticks) w.heap.size := by
  refine (gossips_any hN w h1 h8 t1 t2).mono fun e w' ⟨a, c, bs, he, hk, hn⟩ => ⟨a, c, bs, he, hk, ?_⟩
  have : ((List.range n).map fun (i : Nat) => mergeG (newG ((i : Int) + 1) ticks (i + 1)) (allRows n)) = starts n ticks := List.map_congr_left fun i hi => begin_eq n i ticks (by have := hN.out; omega) (List.mem_range.1 hi)
  rw [this] at hn
  exact hn
set_option maxHeartbeats 1000000 in
theorem begun_any (w : World) : Calls Try.prog 9 #[] w fun e w' => e = .returned (.bool true) ∧ Keep [] w w' := by
  have HN2 : Hid ((2 : Int) = ((2 : Nat) : Int)) := Lib.hid rfl
  have hq : (lat ((starts 2 2).getD 0 g0).rs 2) = ⟨2, 0, 1⟩ := rfl
  have hme : ((starts 2 2).getD 0 g0).me = 1 := rfl
  have HQ := Lib.hid hq
  have HME := Lib.hid hme
  clear hq hme
  go_enter Try.func9, Try.ntmps9
  go_wp2_with (first | (go_at_call 11; refine (net_any HN2 _ (by omega) (by omega) (by omega) (by omega)).mono ?_; rintro e w1 ⟨a, c, bs, rfl, hk1, hnet⟩; obtain ⟨b, off, rfl, hc⟩ := hnet.ptr (show 0 < 2 by omega); rw [Nat.add_zero] at hc; have HN := Lib.hid hnet; clear hnet) | (go_at_call 14; refine (says_at (HN.out.at_ 0 (by omega)) HN2 (by omega) (by omega) (by rw [HQ.out]; simp) (u := 1) (by rw [HQ.out])).mono ?_; rintro e w2 ⟨rfl, hk2⟩; have hc2 := hk2.cell hc (by simp)) | (go_at_call 13; refine (doubt_ok (HN.out.keep (by first | exact hk2 | exact hk2.drew) |>.at_ 0 (by omega)) HN2 (by omega) (by omega) (by rw [HQ.out]; simp) (by rw [HME.out]; omega) HQ.out).mono ?_; rintro e w3 ⟨rfl, hk3, hg3⟩) | (with_reducible refine Txt.wp_region_text mixed quiet (by decide +kernel) ?_) | (with_reducible refine Txt.text_done (by kernel_rfl) ?_))
  go_ret
  refine ⟨rfl, (hk1.call hk2 (by simp)).call hk3 ?_⟩
  intro x hx
  simp only [List.mem_singleton] at hx
  subst hx
  exact .inr (HN.out.lo _ (HN.out.mem (by omega)))
end Go.Proofs.Ytmkdppbnmogmlaa
