import Derived.Test.YtmdfkbckpekchaaF2
namespace Go.Proofs.Ytmdfkbckpekchaa
open Go.RowKit
set_option maxRecDepth 100000 in
set_option maxHeartbeats 8000000 in
theorem fenceOne_walk (a : Option Addr) (len cap : Nat) (A : Nat → Option Addr) (L C : Nat → Nat) (Z : Nat → List Int) (w : World) (hr : RowsV w a len cap A L C Z) :
    Calls Try.prog 5 #[.slice a len cap] w fun e w' => e = .returned (.bool true) ∧ Keep [] w w' := by
  have hc := hr.room
  have hm := hr.most
  unfold maxLen at hm
  obtain ⟨N, hN, hNl, hN1⟩ : ∃ N : Nat, (if (150 : Int) < (len : Int) then (150 : Int) else (len : Int)) = (N : Int) ∧ N ≤ len ∧ N ≤ 150 :=
    ⟨min 150 len, by split <;> omega, by omega, by omega⟩
  go_enter Try.func5, Try.ntmps5
  go_wp2_with (first | (go_at_call 18; refine (fenceBegun_any _).mono ?_; rintro e w1 ⟨rfl, hk1⟩) | (go_at_call 23; refine (newLease_any _).mono ?_; rintro e w' ⟨rfl, rfl⟩) | (with_reducible refine Txt.wp_region_text mixed quiet (by kernel_rfl) ?_) | (with_reducible refine Txt.text_done (by kernel_rfl) ?_))
  go_loopw [4, 5, 6, 7, 29] (fun nd ep ti no i wr => ∃ (k : Nat) (node epoch till now : Int), k ≤ N ∧ 0 ≤ node ∧ node ≤ 8 ∧ 0 ≤ epoch ∧ epoch ≤ k ∧ (0 ≤ now ∧ now ≤ 20 * k) ∧ (till ≤ now + 20) ∧ i = .int .i64 k ∧ nd = .int .i64 node ∧ ep = .int .i64 epoch ∧ ti = .int .i64 till ∧ no = .int .i64 now ∧ Keep [] w wr ∧ wr.heap[w1.heap.size]? = some (.cells (leaseC now epoch node till) 64 (0, 0))) (fun _ _ _ _ i _ => 150 - (intOf i).toNat)
  case atStart => exact ⟨0, 0, 0, 0, 0, by omega, by omega, by omega, by omega, by omega, by omega, by omega, rfl, rfl, rfl, rfl, rfl, hk1.alloc _, blk_new _ _⟩
  case round =>
    have hsz := hk1.size
    obtain ⟨k, node, epoch, till, now, hk, hn0, hn1, he0, he1, ⟨ho0, ho1⟩, ht1, rfl, rfl, rfl, rfl, rfl, hkw, hst⟩ := hrel
    by_cases hlt : k < N
    · have hlt1 : k < len := by omega
      have hrow := hr.rows k hlt1
      obtain ⟨b, off, rfl, hcell⟩ := hr.cells (by omega)
      have hck := hkw.cell (hcell k hlt1) (by simp)
      have hbnd := hrow.room
      have hbnd2 := hrow.most
      unfold maxLen at hbnd2
      clear hcell hr
      by_cases h2 : L k < 3
      · go_wp2_with fail
        go_roundw
        case rel => exact ⟨k + 1, node, epoch, till, now, by omega, by omega, by omega, by omega, by omega, by omega, by omega, by go_num, rfl, rfl, rfl, rfl, hkw, hst⟩
        case measure => simp [intOf]; omega
      · obtain ⟨b2, off2, hA, hz⟩ := hrow.cells (by omega)
        rw [hA] at hck
        have hz0 := hkw.cell (hz 0 (by omega)) (by simp)
        rw [Nat.add_zero] at hz0
        have hz1 := hkw.cell (hz 1 (by omega)) (by simp)
        have hz2 := hkw.cell (hz 2 (by omega)) (by simp)
        obtain ⟨q0, hq0⟩ : ∃ q, restI ((Z k).getD 0 0) 5 = q := ⟨_, rfl⟩
        obtain ⟨q1, hq1⟩ : ∃ q, restI ((Z k).getD 1 0) 4 = q := ⟨_, rfl⟩
        obtain ⟨q2, hq2⟩ : ∃ q, restI ((Z k).getD 2 0) 20 = q := ⟨_, rfl⟩
        have hq00 : 0 ≤ q0 := hq0 ▸ restI_lo _ (by omega)
        have hq01 : q0 < 5 := hq0 ▸ restI_hi _ (by omega)
        have hq10 : 0 ≤ q1 := hq1 ▸ restI_lo _ (by omega)
        have hq11 : q1 < 4 := hq1 ▸ restI_hi _ (by omega)
        have hq20 : 0 ≤ q2 := hq2 ▸ restI_lo _ (by omega)
        have hq21 : q2 < 20 := hq2 ▸ restI_hi _ (by omega)
        have HQ0 := Lib.hid hq0
        have HQ1 := Lib.hid hq1
        have HQ2 := Lib.hid hq2
        clear hz hrow hA hq0 hq1 hq2
        generalize (Z k).getD 0 0 = z0 at *
        generalize (Z k).getD 1 0 = z1 at *
        generalize (Z k).getD 2 0 = z2 at *
        have HST := Lib.hid hst
        clear hst
        by_cases hop0 : q0 = 0
        · subst hop0
          by_cases had : 0 < node ∧ now < till
          · obtain ⟨hd1, hd2⟩ := had
            all_goals as_aux_lemma =>
              go_wp2_with (first | (go_at_call 20; (with_reducible refine (rest_at HQ0 (by omega) (by omega)).mono ?_); rintro e w' ⟨rfl, rfl⟩) | (go_at_call 20; (with_reducible refine (rest_at HQ1 (by omega) (by omega)).mono ?_); rintro e w' ⟨rfl, rfl⟩) | (go_at_call 20; (with_reducible refine (rest_at HQ2 (by omega) (by omega)).mono ?_); rintro e w' ⟨rfl, rfl⟩) | (go_at_call 24; refine (take_held (by exact HST.out) (by omega) (by omega) (by omega) (by omega) (by omega) (by omega)).mono ?_; rintro e w2 ⟨rfl, hk2⟩; have hst2 := hk2.at (by exact HST.out) (by simp)) | (go_at_call 28; refine (who_held (by exact hst2) (by omega) (by omega) (by omega) (by omega) (by omega)).mono ?_; rintro e w3 ⟨rfl, hk3⟩) | (go_at_call 28; refine (who_free (by exact hst2) (by omega)).mono ?_; rintro e w3 ⟨rfl, hk3⟩) | (with_reducible refine Txt.wp_region_text mixed quiet (by kernel_rfl) ?_) | (with_reducible refine Txt.text_done (by kernel_rfl) ?_))
              all_goals go_roundw
              all_goals first | (case rel => exact ⟨k + 1, _, _, _, _, by omega, by omega, by omega, by omega, by omega, by omega, by omega, by go_num, rfl, rfl, rfl, rfl, (by repeat (first | exact hkw | apply Keep.drew | refine Keep.call ?_ hk3 (by simp) | refine Keep.call ?_ hk2 (by simp <;> omega))), hk3.at (by exact hst2) (by simp)⟩) | (case measure => simp [intOf]; omega) | skip
          · have hd : node = 0 ∨ till ≤ now := by omega
            clear had
            all_goals as_aux_lemma =>
              go_wp2_with (first | (go_at_call 20; (with_reducible refine (rest_at HQ0 (by omega) (by omega)).mono ?_); rintro e w' ⟨rfl, rfl⟩) | (go_at_call 20; (with_reducible refine (rest_at HQ1 (by omega) (by omega)).mono ?_); rintro e w' ⟨rfl, rfl⟩) | (go_at_call 20; (with_reducible refine (rest_at HQ2 (by omega) (by omega)).mono ?_); rintro e w' ⟨rfl, rfl⟩) | (go_at_call 24; refine (take_free (by exact HST.out) (by omega) (by omega) (by omega) (by omega) (by omega) (by omega) (by omega) (by omega) (by omega)).mono ?_; rintro e w2 ⟨rfl, hk2, hst2⟩) | (go_at_call 28; refine (who_held (by exact hst2) (by omega) (by omega) (by omega) (by omega) (by omega)).mono ?_; rintro e w3 ⟨rfl, hk3⟩) | (go_at_call 28; refine (who_free (by exact hst2) (by omega)).mono ?_; rintro e w3 ⟨rfl, hk3⟩) | (with_reducible refine Txt.wp_region_text mixed quiet (by kernel_rfl) ?_) | (with_reducible refine Txt.text_done (by kernel_rfl) ?_))
              all_goals go_roundw
              all_goals first | (case rel => exact ⟨k + 1, _, _, _, _, by omega, by omega, by omega, by omega, by omega, by omega, by omega, by go_num, rfl, rfl, rfl, rfl, (by repeat (first | exact hkw | apply Keep.drew | refine Keep.call ?_ hk3 (by simp) | refine Keep.call ?_ hk2 (by simp <;> omega))), hk3.at (by exact hst2) (by simp)⟩) | (case measure => simp [intOf]; omega) | skip
        · by_cases hop1 : q0 = 1
          · subst hop1
            by_cases had : 0 < node ∧ now < till
            · obtain ⟨hd1, hd2⟩ := had
              by_cases hwn : 1 + q1 = node
              · subst hwn
                by_cases htn : till < now + (1 + q2)
                all_goals as_aux_lemma =>
                  go_wp2_with (first | (go_at_call 20; (with_reducible refine (rest_at HQ0 (by omega) (by omega)).mono ?_); rintro e w' ⟨rfl, rfl⟩) | (go_at_call 20; (with_reducible refine (rest_at HQ1 (by omega) (by omega)).mono ?_); rintro e w' ⟨rfl, rfl⟩) | (go_at_call 20; (with_reducible refine (rest_at HQ2 (by omega) (by omega)).mono ?_); rintro e w' ⟨rfl, rfl⟩) | (go_at_call 25; refine (keep_ok (by exact HST.out) (by omega) (by omega) (by omega) (by omega) (by omega) (by omega)).mono ?_; rintro e w2 ⟨rfl, hk2, hst2⟩; (split at hst2 <;> try (exfalso; omega))) | (go_at_call 28; refine (who_held (by exact hst2) (by omega) (by omega) (by omega) (by omega) (by omega)).mono ?_; rintro e w3 ⟨rfl, hk3⟩) | (go_at_call 28; refine (who_free (by exact hst2) (by omega)).mono ?_; rintro e w3 ⟨rfl, hk3⟩) | (with_reducible refine Txt.wp_region_text mixed quiet (by kernel_rfl) ?_) | (with_reducible refine Txt.text_done (by kernel_rfl) ?_))
                  all_goals go_roundw
                  all_goals first | (case rel => exact ⟨k + 1, _, _, _, _, by omega, by omega, by omega, by omega, by omega, by omega, by omega, by go_num, rfl, rfl, rfl, rfl, (by repeat (first | exact hkw | apply Keep.drew | refine Keep.call ?_ hk3 (by simp) | refine Keep.call ?_ hk2 (by simp <;> omega))), hk3.at (by exact hst2) (by simp)⟩) | (case measure => simp [intOf]; omega) | skip
              · all_goals as_aux_lemma =>
                  go_wp2_with (first | (go_at_call 20; (with_reducible refine (rest_at HQ0 (by omega) (by omega)).mono ?_); rintro e w' ⟨rfl, rfl⟩) | (go_at_call 20; (with_reducible refine (rest_at HQ1 (by omega) (by omega)).mono ?_); rintro e w' ⟨rfl, rfl⟩) | (go_at_call 20; (with_reducible refine (rest_at HQ2 (by omega) (by omega)).mono ?_); rintro e w' ⟨rfl, rfl⟩) | (go_at_call 25; refine (keep_none (by exact HST.out) (by omega) (by omega) (by omega)).mono ?_; rintro e w2 ⟨rfl, hk2⟩; have hst2 := hk2.at (by exact HST.out) (by simp)) | (go_at_call 28; refine (who_held (by exact hst2) (by omega) (by omega) (by omega) (by omega) (by omega)).mono ?_; rintro e w3 ⟨rfl, hk3⟩) | (go_at_call 28; refine (who_free (by exact hst2) (by omega)).mono ?_; rintro e w3 ⟨rfl, hk3⟩) | (with_reducible refine Txt.wp_region_text mixed quiet (by kernel_rfl) ?_) | (with_reducible refine Txt.text_done (by kernel_rfl) ?_))
                  all_goals go_roundw
                  all_goals first | (case rel => exact ⟨k + 1, _, _, _, _, by omega, by omega, by omega, by omega, by omega, by omega, by omega, by go_num, rfl, rfl, rfl, rfl, (by repeat (first | exact hkw | apply Keep.drew | refine Keep.call ?_ hk3 (by simp) | refine Keep.call ?_ hk2 (by simp <;> omega))), hk3.at (by exact hst2) (by simp)⟩) | (case measure => simp [intOf]; omega) | skip
            · have hd : node = 0 ∨ till ≤ now := by omega
              clear had
              by_cases hwn : 1 + q1 = node
              · subst hwn
                have hd' : till ≤ now := by omega
                all_goals as_aux_lemma =>
                  go_wp2_with (first | (go_at_call 20; (with_reducible refine (rest_at HQ0 (by omega) (by omega)).mono ?_); rintro e w' ⟨rfl, rfl⟩) | (go_at_call 20; (with_reducible refine (rest_at HQ1 (by omega) (by omega)).mono ?_); rintro e w' ⟨rfl, rfl⟩) | (go_at_call 20; (with_reducible refine (rest_at HQ2 (by omega) (by omega)).mono ?_); rintro e w' ⟨rfl, rfl⟩) | (go_at_call 25; refine (keep_gone (by exact HST.out) (by omega) (by omega) (by omega) (by omega)).mono ?_; rintro e w2 ⟨rfl, hk2⟩; have hst2 := hk2.at (by exact HST.out) (by simp)) | (go_at_call 28; refine (who_held (by exact hst2) (by omega) (by omega) (by omega) (by omega) (by omega)).mono ?_; rintro e w3 ⟨rfl, hk3⟩) | (go_at_call 28; refine (who_free (by exact hst2) (by omega)).mono ?_; rintro e w3 ⟨rfl, hk3⟩) | (with_reducible refine Txt.wp_region_text mixed quiet (by kernel_rfl) ?_) | (with_reducible refine Txt.text_done (by kernel_rfl) ?_))
                  all_goals go_roundw
                  all_goals first | (case rel => exact ⟨k + 1, _, _, _, _, by omega, by omega, by omega, by omega, by omega, by omega, by omega, by go_num, rfl, rfl, rfl, rfl, (by repeat (first | exact hkw | apply Keep.drew | refine Keep.call ?_ hk3 (by simp) | refine Keep.call ?_ hk2 (by simp <;> omega))), hk3.at (by exact hst2) (by simp)⟩) | (case measure => simp [intOf]; omega) | skip
              · all_goals as_aux_lemma =>
                  go_wp2_with (first | (go_at_call 20; (with_reducible refine (rest_at HQ0 (by omega) (by omega)).mono ?_); rintro e w' ⟨rfl, rfl⟩) | (go_at_call 20; (with_reducible refine (rest_at HQ1 (by omega) (by omega)).mono ?_); rintro e w' ⟨rfl, rfl⟩) | (go_at_call 20; (with_reducible refine (rest_at HQ2 (by omega) (by omega)).mono ?_); rintro e w' ⟨rfl, rfl⟩) | (go_at_call 25; refine (keep_none (by exact HST.out) (by omega) (by omega) (by omega)).mono ?_; rintro e w2 ⟨rfl, hk2⟩; have hst2 := hk2.at (by exact HST.out) (by simp)) | (go_at_call 28; refine (who_held (by exact hst2) (by omega) (by omega) (by omega) (by omega) (by omega)).mono ?_; rintro e w3 ⟨rfl, hk3⟩) | (go_at_call 28; refine (who_free (by exact hst2) (by omega)).mono ?_; rintro e w3 ⟨rfl, hk3⟩) | (with_reducible refine Txt.wp_region_text mixed quiet (by kernel_rfl) ?_) | (with_reducible refine Txt.text_done (by kernel_rfl) ?_))
                  all_goals go_roundw
                  all_goals first | (case rel => exact ⟨k + 1, _, _, _, _, by omega, by omega, by omega, by omega, by omega, by omega, by omega, by go_num, rfl, rfl, rfl, rfl, (by repeat (first | exact hkw | apply Keep.drew | refine Keep.call ?_ hk3 (by simp) | refine Keep.call ?_ hk2 (by simp <;> omega))), hk3.at (by exact hst2) (by simp)⟩) | (case measure => simp [intOf]; omega) | skip
          · by_cases hop2 : q0 = 2
            · subst hop2
              by_cases hwn : 1 + q1 = node
              · subst hwn
                all_goals as_aux_lemma =>
                  go_wp2_with (first | (go_at_call 20; (with_reducible refine (rest_at HQ0 (by omega) (by omega)).mono ?_); rintro e w' ⟨rfl, rfl⟩) | (go_at_call 20; (with_reducible refine (rest_at HQ1 (by omega) (by omega)).mono ?_); rintro e w' ⟨rfl, rfl⟩) | (go_at_call 20; (with_reducible refine (rest_at HQ2 (by omega) (by omega)).mono ?_); rintro e w' ⟨rfl, rfl⟩) | (go_at_call 26; refine (leave_ok (by exact HST.out) (by omega)).mono ?_; rintro e w2 ⟨rfl, hk2, hst2⟩) | (go_at_call 28; refine (who_held (by exact hst2) (by omega) (by omega) (by omega) (by omega) (by omega)).mono ?_; rintro e w3 ⟨rfl, hk3⟩) | (go_at_call 28; refine (who_free (by exact hst2) (by omega)).mono ?_; rintro e w3 ⟨rfl, hk3⟩) | (with_reducible refine Txt.wp_region_text mixed quiet (by kernel_rfl) ?_) | (with_reducible refine Txt.text_done (by kernel_rfl) ?_))
                  all_goals go_roundw
                  all_goals first | (case rel => exact ⟨k + 1, _, _, _, _, by omega, by omega, by omega, by omega, by omega, by omega, by omega, by go_num, rfl, rfl, rfl, rfl, (by repeat (first | exact hkw | apply Keep.drew | refine Keep.call ?_ hk3 (by simp) | refine Keep.call ?_ hk2 (by simp <;> omega))), hk3.at (by exact hst2) (by simp)⟩) | (case measure => simp [intOf]; omega) | skip
              · by_cases had : 0 < node ∧ now < till
                all_goals as_aux_lemma =>
                  go_wp2_with (first | (go_at_call 20; (with_reducible refine (rest_at HQ0 (by omega) (by omega)).mono ?_); rintro e w' ⟨rfl, rfl⟩) | (go_at_call 20; (with_reducible refine (rest_at HQ1 (by omega) (by omega)).mono ?_); rintro e w' ⟨rfl, rfl⟩) | (go_at_call 20; (with_reducible refine (rest_at HQ2 (by omega) (by omega)).mono ?_); rintro e w' ⟨rfl, rfl⟩) | (go_at_call 26; refine (leave_none (by exact HST.out) (by omega)).mono ?_; rintro e w2 ⟨rfl, hk2⟩; have hst2 := hk2.at (by exact HST.out) (by simp)) | (go_at_call 28; refine (who_held (by exact hst2) (by omega) (by omega) (by omega) (by omega) (by omega)).mono ?_; rintro e w3 ⟨rfl, hk3⟩) | (go_at_call 28; refine (who_free (by exact hst2) (by omega)).mono ?_; rintro e w3 ⟨rfl, hk3⟩) | (with_reducible refine Txt.wp_region_text mixed quiet (by kernel_rfl) ?_) | (with_reducible refine Txt.text_done (by kernel_rfl) ?_))
                  all_goals go_roundw
                  all_goals first | (case rel => exact ⟨k + 1, _, _, _, _, by omega, by omega, by omega, by omega, by omega, by omega, by omega, by go_num, rfl, rfl, rfl, rfl, (by repeat (first | exact hkw | apply Keep.drew | refine Keep.call ?_ hk3 (by simp) | refine Keep.call ?_ hk2 (by simp <;> omega))), hk3.at (by exact hst2) (by simp)⟩) | (case measure => simp [intOf]; omega) | skip
            · by_cases had : 0 < node ∧ now + (1 + q2) < till
              all_goals as_aux_lemma =>
                go_wp2_with (first | (go_at_call 20; (with_reducible refine (rest_at HQ0 (by omega) (by omega)).mono ?_); rintro e w' ⟨rfl, rfl⟩) | (go_at_call 20; (with_reducible refine (rest_at HQ1 (by omega) (by omega)).mono ?_); rintro e w' ⟨rfl, rfl⟩) | (go_at_call 20; (with_reducible refine (rest_at HQ2 (by omega) (by omega)).mono ?_); rintro e w' ⟨rfl, rfl⟩) | (go_at_call 27; refine (tick_ok (by exact HST.out) (by omega) (by omega) (by omega) (by omega)).mono ?_; rintro e w2 ⟨rfl, hk2, hst2⟩) | (go_at_call 28; refine (who_held (by exact hst2) (by omega) (by omega) (by omega) (by omega) (by omega)).mono ?_; rintro e w3 ⟨rfl, hk3⟩) | (go_at_call 28; refine (who_free (by exact hst2) (by omega)).mono ?_; rintro e w3 ⟨rfl, hk3⟩) | (with_reducible refine Txt.wp_region_text mixed quiet (by kernel_rfl) ?_) | (with_reducible refine Txt.text_done (by kernel_rfl) ?_))
                all_goals go_roundw
                all_goals first | (case rel => exact ⟨k + 1, _, _, _, _, by omega, by omega, by omega, by omega, by omega, by omega, by omega, by go_num, rfl, rfl, rfl, rfl, (by repeat (first | exact hkw | apply Keep.drew | refine Keep.call ?_ hk3 (by simp) | refine Keep.call ?_ hk2 (by simp <;> omega))), hk3.at (by exact hst2) (by simp)⟩) | (case measure => simp [intOf]; omega) | skip
    · go_wp2_with fail
      go_ret
      exact ⟨rfl, hkw⟩
end Go.Proofs.Ytmdfkbckpekchaa
