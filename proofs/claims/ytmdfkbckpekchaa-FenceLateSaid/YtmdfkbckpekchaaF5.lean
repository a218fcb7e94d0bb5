import Derived.Test.YtmdfkbckpekchaaF2
namespace Go.Proofs.Ytmdfkbckpekchaa
open Go.RowKit
theorem newLease_v (w : World) : Calls Try.prog 23 #[] w fun e w' => ∃ b, e = .returned (.pointer (some ⟨b, 0, none⟩)) ∧ w.heap.size ≤ b ∧ b < w'.heap.size ∧ Keep [] w w' ∧ w'.heap[b]? = some (.cells (leaseC 0 0 0 0) 64 (0, 0)) :=
  (newLease_any w).mono fun e w' ⟨he, hw⟩ => by subst hw; exact ⟨_, he, Nat.le_refl _, by simp, (Keep.refl _ _).alloc _, blk_new _ _⟩
theorem newStore_v (w : World) : Calls Try.prog 19 #[] w fun e w' => ∃ b, e = .returned (.pointer (some ⟨b, 0, none⟩)) ∧ w.heap.size ≤ b ∧ b < w'.heap.size ∧ Keep [] w w' ∧ w'.heap[b]? = some (.cells (storeC 0 0 0) 61 (0, 0)) :=
  (newStore_any w).mono fun e w' ⟨he, hw⟩ => by subst hw; exact ⟨_, he, Nat.le_refl _, by simp, (Keep.refl _ _).alloc _, blk_new _ _⟩
set_option maxHeartbeats 2000000 in
theorem fenceLate_walk (t va vb : Int) (a : Option Addr) (len cap : Nat) (zs : List Int) (w : World) (hr : IntsV w a len cap zs) :
    Calls Try.prog 6 #[.int .i64 t, .int .i64 va, .int .i64 vb, .slice a len cap] w fun e w' => e = .returned (.bool true) ∧ Keep [] w w' := by
  have hc := hr.room
  have hm := hr.most
  unfold maxLen at hm
  obtain ⟨N, hN, hNl, hN1⟩ : ∃ N : Nat, (if (50 : Int) < (len : Int) then (50 : Int) else (len : Int)) = (N : Int) ∧ N ≤ len ∧ N ≤ 50 :=
    ⟨min 50 len, by split <;> omega, by omega, by omega⟩
  obtain ⟨q, hq⟩ : ∃ q, restI t 100 = q := ⟨_, rfl⟩
  have hq0 : 0 ≤ q := hq ▸ restI_lo _ (by omega)
  have hq1 : q < 100 := hq ▸ restI_hi _ (by omega)
  have HQ := Lib.hid hq
  clear hq
  go_enter Try.func6, Try.ntmps6
  go_wp2_with (first | (go_at_call 18; refine (fenceBegun_any _).mono ?_; rintro e w1 ⟨rfl, hk1⟩; have hz1 := hk1.size) | (go_at_call 23; refine (newLease_v _).mono ?_; rintro e w2 ⟨bL, rfl, hb1, hb2, hk2, hL⟩) | (go_at_call 19; refine (newStore_v _).mono ?_; rintro e w3 ⟨bS, rfl, hb3, hb4, hk3, hS⟩; have hL3 := hk3.at hL (by simp)) | (go_at_call 20; (with_reducible refine (rest_at HQ (by omega) (by omega)).mono ?_); rintro e w' ⟨rfl, rfl⟩) | (with_reducible refine Txt.wp_region_text mixed quiet (by kernel_rfl) ?_) | (with_reducible refine Txt.text_done (by kernel_rfl) ?_))
  refine (take_free (by exact hL3) (by omega) (by omega) (by omega) (by omega) (by omega) (by omega) (by omega) (by omega) (.inl rfl)).mono ?_
  rintro e w4 ⟨rfl, hk4, hL4⟩
  have hS4 := hk4.at (by exact hS) (by simp; omega)
  go_wp2_with (first | (with_reducible refine Txt.wp_region_text mixed quiet (by kernel_rfl) ?_) | (with_reducible refine Txt.text_done (by kernel_rfl) ?_))
  refine (put_high (by exact hS4) (by omega) (by omega)).mono ?_
  rintro e w5 ⟨rfl, hk5, hS5⟩
  have hL5 := hk5.at (by exact hL4) (by simp; omega)
  go_wp2_with (first | (with_reducible refine Txt.wp_region_text mixed quiet (by kernel_rfl) ?_) | (with_reducible refine Txt.text_done (by kernel_rfl) ?_))
  refine (tick_ok (by exact hL5) (by omega) (by omega) (by omega) (by omega)).mono ?_
  rintro e w6 ⟨rfl, hk6, hL6⟩
  have hS6 := hk6.at (by exact hS5) (by simp; omega)
  go_wp2_with (first | (with_reducible refine Txt.wp_region_text mixed quiet (by kernel_rfl) ?_) | (with_reducible refine Txt.text_done (by kernel_rfl) ?_))
  refine (take_free (by exact hL6) (by omega) (by omega) (by omega) (by omega) (by omega) (by omega) (by omega) (by omega) (.inr (by omega))).mono ?_
  rintro e w7 ⟨rfl, hk7, hL7⟩
  have hS7 := hk7.at (by exact hS6) (by simp; omega)
  go_wp2_with (first | (with_reducible refine Txt.wp_region_text mixed quiet (by kernel_rfl) ?_) | (with_reducible refine Txt.text_done (by kernel_rfl) ?_))
  refine (put_high (by exact hS7) (by omega) (by omega)).mono ?_
  rintro e w8 ⟨rfl, hk8, hS8⟩
  have hL8 := hk8.at (by exact hL7) (by simp; omega)
  go_wp2_with (first | (with_reducible refine Txt.wp_region_text mixed quiet (by kernel_rfl) ?_) | (with_reducible refine Txt.text_done (by kernel_rfl) ?_))
  refine (keep_none (by exact hL8) (by omega) (by omega) (by omega)).mono ?_
  rintro e w9 ⟨rfl, hk9⟩
  have hS9 := hk9.at (by exact hS8) (by simp)
  have hK9 : Keep [] w w9 := by
    refine Keep.call ?_ hk9 (by simp)
    refine Keep.call ?_ hk8 (by simp; omega)
    refine Keep.call ?_ hk7 (by simp; omega)
    refine Keep.call ?_ hk6 (by simp; omega)
    refine Keep.call ?_ hk5 (by simp; omega)
    refine Keep.call ?_ hk4 (by simp; omega)
    exact (hk1.trans hk2).trans hk3
  clear hk2 hk3 hk4 hk5 hk6 hk7 hk8 hk9 hL hL3 hL4 hL5 hL6 hL7 hL8 hS hS4 hS5 hS6 hS7 hS8
  go_wp2_with (first | (with_reducible refine Txt.wp_region_text mixed quiet (by kernel_rfl) ?_) | (with_reducible refine Txt.text_done (by kernel_rfl) ?_))
  go_loopw [15, 78] (fun rf i wr => ∃ k : Nat, k ≤ N ∧ rf = .int .i64 k ∧ i = .int .i64 k ∧ Keep [] w wr ∧ wr.heap[bS]? = some (.cells (storeC vb 2 k) 61 (0, 0))) (fun _ i _ => 50 - (intOf i).toNat)
  case atStart => exact ⟨0, by omega, rfl, rfl, hK9, by simpa using hS9⟩
  case round =>
    obtain ⟨k, hk, rfl, rfl, hkw, hst⟩ := hrel
    by_cases hlt : k < N
    · obtain ⟨b, off, rfl, hcell⟩ := hr.cells (by omega)
      have hck := hkw.cell (hcell k (by omega)) (by simp)
      clear hcell
      generalize zs.getD k 0 = z at *
      have HST := Lib.hid hst
      clear hst hr hS9
      go_wp2_with (first | (go_at_call 21; refine (put_low (by exact HST.out) (by omega) (by omega) (by omega) (by omega)).mono ?_; rintro e w2 ⟨rfl, hk2, hst2⟩) | (with_reducible refine Txt.wp_region_text mixed quiet (by kernel_rfl) ?_) | (with_reducible refine Txt.text_done (by kernel_rfl) ?_))
      go_roundw
      case rel => exact ⟨k + 1, by omega, by go_num, by go_num, Keep.call hkw hk2 (by simp; omega), by simpa using hst2⟩
      case measure => simp [intOf]; omega
    · obtain rfl : k = N := by omega
      go_wp2_with (first | (go_at_call 22; refine (get_any (by exact hst)).mono ?_; rintro e w2 ⟨rfl, hk2⟩) | (with_reducible refine Txt.wp_region_text mixed quiet (by kernel_rfl) ?_) | (with_reducible refine Txt.text_done (by kernel_rfl) ?_))
      go_ret
      exact ⟨rfl, by repeat (first | exact hkw.trans hk2 | apply Keep.drew)⟩
end Go.Proofs.Ytmdfkbckpekchaa
