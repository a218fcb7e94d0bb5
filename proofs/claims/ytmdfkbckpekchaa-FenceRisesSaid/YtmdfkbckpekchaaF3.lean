import Derived.Test.YtmdfkbckpekchaaF2
namespace Go.Proofs.Ytmdfkbckpekchaa
open Go.RowKit
set_option maxHeartbeats 1000000 in
theorem fenceRises_walk (a : Option Addr) (len cap : Nat) (A : Nat → Option Addr) (L C : Nat → Nat) (Z : Nat → List Int) (w : World) (hr : RowsV w a len cap A L C Z) :
    Calls Try.prog 4 #[.slice a len cap] w fun e w' => e = .returned (.bool true) ∧ Keep [] w w' := by
  have hc := hr.room
  have hm := hr.most
  unfold maxLen at hm
  have hmx : max (100 : Int) 0 = 100 := by decide
  go_enter Try.func4, Try.ntmps4
  go_wp2_with (first | (go_at_call 18; refine (fenceBegun_any _).mono ?_; rintro e w1 ⟨rfl, hk1⟩) | (go_at_call 19; refine (newStore_any _).mono ?_; rintro e w' ⟨rfl, rfl⟩) | (with_reducible refine Txt.wp_region_text mixed quiet (by kernel_rfl) ?_) | (with_reducible refine Txt.text_done (by kernel_rfl) ?_))
  all_goals
    go_loopw [4, 5, 23] (fun most value i wr => ∃ (k : Nat) (m v r : Int), k ≤ len ∧ k ≤ 100 ∧ 0 ≤ m ∧ m ≤ 10 ∧ 0 ≤ r ∧ r ≤ k ∧ i = .int .i64 k ∧ most = .int .i64 m ∧ value = .int .i64 v ∧ Keep [] w wr ∧ wr.heap[w1.heap.size]? = some (.cells (storeC v m r) 61 (0, 0))) (fun _ _ i _ => 100 - (intOf i).toNat)
    case atStart => exact ⟨0, 0, 0, 0, by omega, by omega, by omega, by omega, by omega, by omega, rfl, rfl, rfl, hk1.alloc _, blk_new _ _⟩
    case round =>
      obtain ⟨k, m, v, r, hk, hk100, hm0, hm1, hr0, hr1, rfl, rfl, rfl, hkw, hst⟩ := hrel
      by_cases hlt : k < len ∧ k < 100
      · obtain ⟨hlt1, hlt2⟩ := hlt
        have hrow := hr.rows k hlt1
        obtain ⟨b, off, rfl, hcell⟩ := hr.cells (by omega)
        have hck := hkw.cell (hcell k hlt1) (by simp)
        have hbnd := hrow.room
        have hbnd2 := hrow.most
        unfold maxLen at hbnd2
        clear hcell hr
        by_cases h2 : L k < 2
        · go_wp2_with fail
          go_roundw
          case rel => exact ⟨k + 1, m, v, r, by omega, by omega, hm0, hm1, hr0, by omega, by go_num, rfl, rfl, hkw, hst⟩
          case measure => simp [intOf]; omega
        · obtain ⟨b2, off2, hA, hz⟩ := hrow.cells (by omega)
          rw [hA] at hck
          have hz0 := hkw.cell (hz 0 (by omega)) (by simp)
          rw [Nat.add_zero] at hz0
          have hz1 := hkw.cell (hz 1 (by omega)) (by simp)
          have hlb : b2 < w.heap.size := World.block_lt_of_cell? w _ (hz 1 (by omega))
          have hne : b2 ≠ w1.heap.size := by have := hk1.size; omega
          obtain ⟨q, hq⟩ : ∃ q, restI ((Z k).getD 0 0) 10 = q := ⟨_, rfl⟩
          have hq0 : 0 ≤ q := hq ▸ restI_lo _ (by omega)
          have hq1 : q < 10 := hq ▸ restI_hi _ (by omega)
          have HQ := Lib.hid hq
          clear hz hrow hA hq
          generalize (Z k).getD 0 0 = z0 at *
          generalize (Z k).getD 1 0 = z1 at *
          have HST := Lib.hid hst
          clear hst
          by_cases hmq : m ≤ 1 + q
          · go_wp2_with (first | (go_at_call 20; refine (rest_at HQ (by omega) (by omega)).mono ?_; rintro e w' ⟨rfl, rfl⟩) | (go_at_call 21; refine (put_high HST.out (by omega) hmq).mono ?_; rintro e w2 ⟨rfl, hk2, hst2⟩; have hz2 := hk2.cell hz1 (by simpa using hne)) | (go_at_call 22; refine (get_any (by exact hst2)).mono ?_; rintro e w3 ⟨rfl, hk3⟩) | (with_reducible refine Txt.wp_region_text mixed quiet (by kernel_rfl) ?_) | (with_reducible refine Txt.text_done (by kernel_rfl) ?_))
            all_goals go_roundw
            all_goals first | (case rel => exact ⟨k + 1, 1 + q, z1, r, by omega, by omega, by omega, by omega, hr0, by omega, by go_num, rfl, rfl, ((hkw.call hk2 (by intro b hb; simp at hb; have := hk1.size; omega)).drew).call hk3 (by simp), hk3.at hst2 (by simp)⟩) | skip
            all_goals first | (case measure => simp [intOf]; omega) | skip
          · have hlt : 1 + q < m := by omega
            clear hmq
            go_wp2_with (first | (go_at_call 20; refine (rest_at HQ (by omega) (by omega)).mono ?_; rintro e w' ⟨rfl, rfl⟩) | (go_at_call 21; refine (put_low HST.out (by omega) hlt (by omega) (by omega)).mono ?_; rintro e w2 ⟨rfl, hk2, hst2⟩; have hz2 := hk2.cell hz1 (by simpa using hne)) | (go_at_call 22; refine (get_any (by exact hst2)).mono ?_; rintro e w3 ⟨rfl, hk3⟩) | (with_reducible refine Txt.wp_region_text mixed quiet (by kernel_rfl) ?_) | (with_reducible refine Txt.text_done (by kernel_rfl) ?_))
            all_goals go_roundw
            all_goals first | (case rel => exact ⟨k + 1, m, v, r + 1, by omega, by omega, by omega, by omega, by omega, by omega, by go_num, rfl, rfl, (hkw.call hk2 (by intro b hb; simp at hb; have := hk1.size; omega)).call hk3 (by simp), hk3.at hst2 (by simp)⟩) | skip
            all_goals first | (case measure => simp [intOf]; omega) | skip
      · go_wp2_with fail
        go_ret
        exact ⟨rfl, hkw⟩
end Go.Proofs.Ytmdfkbckpekchaa
